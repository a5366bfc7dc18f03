/- NetRuns: the switch whole, and the law's walk. -/
import Derived.Test.YtdgohegjpehofaaNetArmsNo
import Derived.Test.YtdgohegjpehofaaNetArmsYes
import Derived.Test.YtdgohegjpehofaaNetArmRead
import Derived.Test.YtdgohegjpehofaaNetArmSend
import Derived.Test.YtdgohegjpehofaaNetArmDial
import Derived.Deep.CutBlock
namespace Go.Proofs.Ytdgohegjpehofaa
open Go.RowKit

theorem sw_any {W : World} {a k : Nat} {s : Ns} {l : Lw} {cb : Nat} {K I : Int} {D : ByteArray} {x v0 v23 v24 v25 : Value} {q : Int} {t : List Value} {w : World} {Kc : Act → World → Prop} {Q : Exit → Act → World → Prop}
    (H : ArmH W a k s l cb K I D x v0 v23 v24 v25 q t w) (hq : 0 ≤ q ∧ q < 8) (hx : XNo l I x ∨ XYes l I x) (hK : Hid (ArmK W a k v0 v23 v24 v25 Kc)) : Code.wp Try.prog blk2 (Exit.then Kc Q) ⟨t.toArray, []⟩ w := by
  have e : q = 0 ∨ q = 1 ∨ q = 2 ∨ q = 3 ∨ q = 4 ∨ q = 5 ∨ q = 6 ∨ q = 7 := by omega
  rcases e with rfl | rfl | rfl | rfl | rfl | rfl | rfl | rfl
  · exact arm_dial _ _ _ _ _ _ _ _ _ _ _ _ _ _ _ _ _ _ H trivial hK
  · rcases hx with h | h
    · exact arm_send_no _ _ _ _ _ _ _ _ _ _ _ _ _ _ _ _ _ _ H h hK
    · exact arm_send_yes _ _ _ _ _ _ _ _ _ _ _ _ _ _ _ _ _ _ H h hK
  · rcases hx with h | h
    · exact arm_shut_no _ _ _ _ _ _ _ _ _ _ _ _ _ _ _ _ _ _ H h hK
    · exact arm_shut_yes _ _ _ _ _ _ _ _ _ _ _ _ _ _ _ _ _ _ H h hK
  · rcases hx with h | h
    · exact arm_reset_no _ _ _ _ _ _ _ _ _ _ _ _ _ _ _ _ _ _ H h hK
    · exact arm_reset_yes _ _ _ _ _ _ _ _ _ _ _ _ _ _ _ _ _ _ H h hK
  · exact arm_accept _ _ _ _ _ _ _ _ _ _ _ _ _ _ _ _ _ _ H trivial hK
  · rcases hx with h | h
    · exact arm_read_no _ _ _ _ _ _ _ _ _ _ _ _ _ _ _ _ _ _ H h hK
    · exact arm_read_yes _ _ _ _ _ _ _ _ _ _ _ _ _ _ _ _ _ _ H h hK
  · rcases hx with h | h
    · exact arm_write_no _ _ _ _ _ _ _ _ _ _ _ _ _ _ _ _ _ _ H h hK
    · exact arm_write_yes _ _ _ _ _ _ _ _ _ _ _ _ _ _ _ _ _ _ H h hK
  · rcases hx with h | h
    · exact arm_close_no _ _ _ _ _ _ _ _ _ _ _ _ _ _ _ _ _ _ H h hK
    · exact arm_close_yes _ _ _ _ _ _ _ _ _ _ _ _ _ _ _ _ _ _ H h hK

theorem kind_in (K : Int) : -8 < K.tmod 8 ∧ K.tmod 8 < 8 := by
  have h1 := Int.tmod_lt_of_pos K (show (0 : Int) < 8 by omega)
  have h2 := Int.lt_tmod_of_pos K (show (0 : Int) < 8 by omega)
  omega

set_option maxRecDepth 100000 in
set_option maxHeartbeats 8000000 in
theorem runs_any (ao : Option Addr) (b off len cap : Nat) (K I : Nat → Int) (D : Nat → ByteArray) (w : World) (hao : 0 < len → ao = some ⟨b, off, none⟩ ∧ b < w.heap.size) (hlen : len ≤ 150)
    (hc : ∀ j, j < len → w.cell? ⟨b, off + j * 3, none⟩ = some (.int .i64 (K j)) ∧ w.cell? ⟨b, off + j * 3 + 1, none⟩ = some (.int .i64 (I j)) ∧ w.cell? ⟨b, off + j * 3 + 2, none⟩ = some (.string (D j))) :
    Calls Try.prog 3 #[.slice ao len cap] w fun e w' => e = .returned (.bool true) ∧ St w 1 w' := by
  have Hao0 := Lib.hid hao
  have Hc0 := Lib.hid hc
  clear hao hc
  go_enter Try.func3, Try.ntmps3
  go_wp2_with fail
  refine (fit_any _).mono ?_
  rintro e w1 ⟨rfl, hS⟩
  have h0 : St w (net w1.heap.size ⟨none, 0, [], none, 0, []⟩ * (law ⟨none, 0, [], none, 0, []⟩ * 1)) (w1.alloc (.cells #[.slice none 0 0, .slice none 0 0] 27)) := by
    rw [net_zero]
    exact (hS.alloc _).eq (by simp only [law, List.map_nil, List.length_nil, slo_nil, SP.all, SP.mul_one])
  have h1 : Syn 0 ⟨none, 0, [], none, 0, []⟩ ⟨none, 0, [], none, 0, []⟩ := ⟨rfl, rfl, by simp, by simp, by simp, by simp⟩
  clear hS
  have H0 := Lib.hid h0
  clear h0
  go_wp2_with fail
  generalize w1.alloc (.cells #[.slice none 0 0, .slice none 0 0] 27) = w2 at *
  generalize w1.heap.size = a at *
  refine wp_loop_fr 403 (fun g f wr => ∃ k s l, k ≤ len ∧ g = len - k ∧ Goes f a s l (.slice ao len cap) (.slice ao len cap) (.int .i64 len) (.int .i64 (k : Nat)) ∧ St w (net a s * (law l * 1)) wr ∧ Syn k s l)
    len ⟨_, fr_of 403 _ rfl, 0, _, _, Nat.zero_le _, rfl, ⟨rfl, rfl, rfl, rfl, rfl, rfl, rfl⟩, H0.out, h1⟩ ?_
  clear H0 h1
  rintro g f wr ⟨k, s, l, hk, rfl, ⟨g0, g3, g4, g5, g23, g24, g25⟩, hST, hsyn⟩ Kr hKr
  rw [fr403, g0, g3, g4, g5, g23, g24, g25]
  clear g0 g3 g4 g5 g23 g24 g25
  have hao := Hao0.out
  have hc := Hc0.out
  clear Hao0 Hc0
  by_cases hlt : k < len
  · obtain ⟨rfl, hb⟩ := hao (by omega)
    clear hao
    obtain ⟨c0, c1, c2⟩ := hc k hlt
    have e := hST.below.cell (p := ⟨b, off + k * 3, none⟩) hb
    rw [c0] at e
    have e1 := hST.below.cell (p := ⟨b, off + k * 3 + 1, none⟩) hb
    rw [c1] at e1
    have e2 := hST.below.cell (p := ⟨b, off + k * 3 + 2, none⟩) hb
    rw [c2] at e2
    clear c0 c1 c2 hc
    generalize K k = kk at *
    generalize I k = ii at *
    generalize D k = dd at *
    have HST := Lib.hid hST
    have Hlt := Lib.hid hlt
    by_cases hbig : 200 < dd.size
    · clear hST hsyn
      unfold ptr
      go_wp2_with fail
      go_ret
      exact ⟨rfl, (HST.out.alloc _).nil⟩
    · have hd200 : dd.size ≤ 200 := by omega
      have hkin := kind_in kk
      obtain ⟨k1, k2⟩ := hkin
      have hcall : St w (net a s * (law l * callB wr.heap.size kk ii dd)) (wr.alloc (.cells #[.int .i64 kk, .int .i64 ii, .string dd] 30)) := by
        unfold callB
        exact (hST.alloc _).eq (by rw [SP.mul_one, SP.mul_one]; ac_rfl)
      have Hcall := Lib.hid hcall
      have Hsyn := Lib.hid hsyn
      have hk150 : k ≤ 150 := by omega
      have hmax := hST.net_len
      unfold maxLen at hmax
      rw [hsyn.len] at hmax
      have hptr : ∀ j, j < l.ms.length → ∃ g off, l.ao = some ⟨g, off, none⟩ ∧ wr.cell? ⟨g, off + j, none⟩ = some (ptr (l.ms.getD j (Mn.fresh 0)).blk) ∧ g < wr.heap.size := by
        intro j hj
        obtain ⟨g, off, e, hp⟩ := (hST.eq (SP.mul_left_comm _ _ _)).law_ptr hj
        refine ⟨g, off, e, ?_, World.block_lt_of_cell? wr _ hp⟩
        rw [hp]; simp [hj]
      have Hptr := Lib.hid hptr
      clear hST hcall hsyn hptr hlt
      -- the switch and all that follows it
      have hsw : ∀ (x : Value) (K2 : Act → World → Prop) (Q2 : Exit → Act → World → Prop) (t : List Value), t.length = 403 → Goes (fun i => t.getD i undef) a s l (.slice (some ⟨b, off, none⟩) len cap) (.slice (some ⟨b, off, none⟩) len cap) (.int .i64 len) (.int .i64 k) →
          t.getD 7 undef = ptr wr.heap.size → t.getD 8 undef = x → t.getD 52 undef = .int .i64 ((kk.tmod 8 + 8) % 8) → (XNo l ii x ∨ XYes l ii x) →
          Hid (ArmK w a k (.slice (some ⟨b, off, none⟩) len cap) (.slice (some ⟨b, off, none⟩) len cap) (.int .i64 len) (.int .i64 k) K2) →
          Code.wp Try.prog blk2 (Exit.then K2 Q2) ⟨t.toArray, []⟩ (wr.alloc (.cells #[.int .i64 kk, .int .i64 ii, .string dd] 30)) := by
        intro x K2 Q2 t h1 h2 h3 h4 h5 h6 h7
        exact sw_any ⟨h1, h2, h3, h4, h5, Hcall.out, Hsyn.out, hd200, hk150⟩ (by omega) h6 h7
      have Hsw := Lib.hid hsw
      clear hsw
      unfold ptr
      have hx3 : ii < 0 ∨ (¬ ii < 0 ∧ (l.ms.length : Int) ≤ ii) ∨ ∃ j : Nat, ii = j ∧ j < l.ms.length := by
        by_cases h1 : ii < 0
        · exact .inl h1
        · by_cases h2 : (l.ms.length : Int) ≤ ii
          · exact .inr (.inl ⟨h1, h2⟩)
          · exact .inr (.inr ⟨ii.toNat, by omega, by omega⟩)
      rcases hx3 with hi0 | ⟨hi1, hi2⟩ | ⟨j, rfl, hj⟩
      · go_upto_block 2 with fail
        refine wp_cut_fr 403 (fun f w' => ∃ s' l', Goes f a s' l' (.slice (some ⟨b, off, none⟩) len cap) (.slice (some ⟨b, off, none⟩) len cap) (.int .i64 len) (.int .i64 k) ∧ St w (net a s' * (law l' * 1)) w' ∧ Syn (k + 1) s' l') ?_ ?_
        · intro K' hK'
          refine Hsw.out (.pointer none) K' _ _ rfl ⟨rfl, rfl, rfl, rfl, rfl, rfl, rfl⟩ rfl rfl rfl (Or.inl ⟨rfl, Or.inl hi0⟩) ?_
          intro f w' s' l' q1 q2 q3
          exact hK'.out _ _ ⟨f, rfl, s', l', q1, q2, q3⟩
        · rintro f w' ⟨s', l', ⟨g0, g3, g4, g5, g23, g24, g25⟩, hST', hsyn'⟩
          rw [fr403, g0, g3, g4, g5, g23, g24, g25]
          clear g0 g3 g4 g5 g23 g24 g25
          have c1 := len_any hST'
          have c2 := dials_any hST'
          have c3 := written_any hST' (-1)
          have c4 := ready_any hST' (l'.ms.length : Int)
          have c5 := gone_any hST' (l'.ms.length : Int)
          have c6 := closed_any hST' (-1)
          have c7 := came_any hST' (-1)
          rw [at?_neg] at c3 c6 c7
          rw [← hsyn'.len, at?_len] at c4 c5
          rw [hsyn'.len] at c1 c4 c5
          rw [hsyn'.dials] at c2
          simp only [outS, readyB, goneB, closedB, cameI] at c3 c4 c5 c6 c7
          have HST' := Lib.hid hST'
          have Hsyn' := Lib.hid hsyn'
          clear hST' hsyn'
          unfold ptr
          go_upto_block 3 with (first | (go_at_call 13; refine c1.mono ?_; rintro e w' ⟨rfl, rfl⟩) | (go_at_call 14; refine c2.mono ?_; rintro e w' ⟨rfl, rfl⟩) | (go_at_call 15; refine c3.mono ?_; rintro e w' ⟨rfl, rfl⟩) | (go_at_call 16; refine c4.mono ?_; rintro e w' ⟨rfl, rfl⟩) | (go_at_call 17; refine c5.mono ?_; rintro e w' ⟨rfl, rfl⟩) | (go_at_call 18; refine c6.mono ?_; rintro e w' ⟨rfl, rfl⟩) | (go_at_call 19; refine c7.mono ?_; rintro e w' ⟨rfl, rfl⟩))
          clear c1 c2 c3 c4 c5 c6 c7
          refine blk3_any _ (by exact rfl) Hsyn'.out HST'.out (by exact ⟨rfl, rfl, rfl, rfl, rfl, rfl, rfl⟩) (by exact rfl) (by exact rfl) (by exact rfl) ?_
          intro f2 w2' q1 q2
          obtain ⟨g0, g3, g4, g5, g23, g24, g25⟩ := q1
          dsimp only [Exit.inBlock, Exit.then]
          rw [fr403, g0, g3, g4, g5, g23, g24, g25]
          have HQ := Lib.hid q2
          clear q2 g0 g3 g4 g5 g23 g24 g25
          have hk64 : k < 1000 := by omega
          unfold ptr
          go_wp2_with fail
          have hlt := Hlt.out
          exact hKr.out _ _ _ (by omega) (Frm.mk _ rfl ⟨k + 1, s', l', by omega, rfl, ⟨rfl, rfl, rfl, rfl, rfl, rfl, by go_num⟩, HQ.out, Hsyn'.out⟩)
      · go_upto_block 2 with fail
        refine wp_cut_fr 403 (fun f w' => ∃ s' l', Goes f a s' l' (.slice (some ⟨b, off, none⟩) len cap) (.slice (some ⟨b, off, none⟩) len cap) (.int .i64 len) (.int .i64 k) ∧ St w (net a s' * (law l' * 1)) w' ∧ Syn (k + 1) s' l') ?_ ?_
        · intro K' hK'
          refine Hsw.out (.pointer none) K' _ _ rfl ⟨rfl, rfl, rfl, rfl, rfl, rfl, rfl⟩ rfl rfl rfl (Or.inl ⟨rfl, Or.inr hi2⟩) ?_
          intro f w' s' l' q1 q2 q3
          exact hK'.out _ _ ⟨f, rfl, s', l', q1, q2, q3⟩
        · rintro f w' ⟨s', l', ⟨g0, g3, g4, g5, g23, g24, g25⟩, hST', hsyn'⟩
          rw [fr403, g0, g3, g4, g5, g23, g24, g25]
          clear g0 g3 g4 g5 g23 g24 g25
          have c1 := len_any hST'
          have c2 := dials_any hST'
          have c3 := written_any hST' (-1)
          have c4 := ready_any hST' (l'.ms.length : Int)
          have c5 := gone_any hST' (l'.ms.length : Int)
          have c6 := closed_any hST' (-1)
          have c7 := came_any hST' (-1)
          rw [at?_neg] at c3 c6 c7
          rw [← hsyn'.len, at?_len] at c4 c5
          rw [hsyn'.len] at c1 c4 c5
          rw [hsyn'.dials] at c2
          simp only [outS, readyB, goneB, closedB, cameI] at c3 c4 c5 c6 c7
          have HST' := Lib.hid hST'
          have Hsyn' := Lib.hid hsyn'
          clear hST' hsyn'
          unfold ptr
          go_upto_block 3 with (first | (go_at_call 13; refine c1.mono ?_; rintro e w' ⟨rfl, rfl⟩) | (go_at_call 14; refine c2.mono ?_; rintro e w' ⟨rfl, rfl⟩) | (go_at_call 15; refine c3.mono ?_; rintro e w' ⟨rfl, rfl⟩) | (go_at_call 16; refine c4.mono ?_; rintro e w' ⟨rfl, rfl⟩) | (go_at_call 17; refine c5.mono ?_; rintro e w' ⟨rfl, rfl⟩) | (go_at_call 18; refine c6.mono ?_; rintro e w' ⟨rfl, rfl⟩) | (go_at_call 19; refine c7.mono ?_; rintro e w' ⟨rfl, rfl⟩))
          clear c1 c2 c3 c4 c5 c6 c7
          refine blk3_any _ (by exact rfl) Hsyn'.out HST'.out (by exact ⟨rfl, rfl, rfl, rfl, rfl, rfl, rfl⟩) (by exact rfl) (by exact rfl) (by exact rfl) ?_
          intro f2 w2' q1 q2
          obtain ⟨g0, g3, g4, g5, g23, g24, g25⟩ := q1
          dsimp only [Exit.inBlock, Exit.then]
          rw [fr403, g0, g3, g4, g5, g23, g24, g25]
          have HQ := Lib.hid q2
          clear q2 g0 g3 g4 g5 g23 g24 g25
          have hk64 : k < 1000 := by omega
          unfold ptr
          go_wp2_with fail
          have hlt := Hlt.out
          exact hKr.out _ _ _ (by omega) (Frm.mk _ rfl ⟨k + 1, s', l', by omega, rfl, ⟨rfl, rfl, rfl, rfl, rfl, rfl, by go_num⟩, HQ.out, Hsyn'.out⟩)
      · obtain ⟨g, mo, hmo, hp, hgl⟩ := Hptr.out j hj
        have Hao := Lib.hid hmo
        rw [hmo]
        unfold ptr at hp
        clear hmo
        go_upto_block 2 with fail
        refine wp_cut_fr 403 (fun f w' => ∃ s' l', Goes f a s' l' (.slice (some ⟨b, off, none⟩) len cap) (.slice (some ⟨b, off, none⟩) len cap) (.int .i64 len) (.int .i64 k) ∧ St w (net a s' * (law l' * 1)) w' ∧ Syn (k + 1) s' l') ?_ ?_
        · intro K' hK'
          refine Hsw.out (ptr (l.ms[j].blk)) K' _ _ rfl ⟨rfl, rfl, by rw [Hao.out]; rfl, rfl, rfl, rfl, rfl⟩ rfl (by simp [ptr]) rfl (Or.inr ⟨j, hj, rfl, rfl⟩) ?_
          intro f w' s' l' q1 q2 q3
          exact hK'.out _ _ ⟨f, rfl, s', l', q1, q2, q3⟩
        · rintro f w' ⟨s', l', ⟨g0, g3, g4, g5, g23, g24, g25⟩, hST', hsyn'⟩
          rw [fr403, g0, g3, g4, g5, g23, g24, g25]
          clear g0 g3 g4 g5 g23 g24 g25
          have c1 := len_any hST'
          have c2 := dials_any hST'
          have c3 := written_any hST' (-1)
          have c4 := ready_any hST' (l'.ms.length : Int)
          have c5 := gone_any hST' (l'.ms.length : Int)
          have c6 := closed_any hST' (-1)
          have c7 := came_any hST' (-1)
          rw [at?_neg] at c3 c6 c7
          rw [← hsyn'.len, at?_len] at c4 c5
          rw [hsyn'.len] at c1 c4 c5
          rw [hsyn'.dials] at c2
          simp only [outS, readyB, goneB, closedB, cameI] at c3 c4 c5 c6 c7
          have HST' := Lib.hid hST'
          have Hsyn' := Lib.hid hsyn'
          clear hST' hsyn'
          unfold ptr
          go_upto_block 3 with (first | (go_at_call 13; refine c1.mono ?_; rintro e w' ⟨rfl, rfl⟩) | (go_at_call 14; refine c2.mono ?_; rintro e w' ⟨rfl, rfl⟩) | (go_at_call 15; refine c3.mono ?_; rintro e w' ⟨rfl, rfl⟩) | (go_at_call 16; refine c4.mono ?_; rintro e w' ⟨rfl, rfl⟩) | (go_at_call 17; refine c5.mono ?_; rintro e w' ⟨rfl, rfl⟩) | (go_at_call 18; refine c6.mono ?_; rintro e w' ⟨rfl, rfl⟩) | (go_at_call 19; refine c7.mono ?_; rintro e w' ⟨rfl, rfl⟩))
          clear c1 c2 c3 c4 c5 c6 c7
          refine blk3_any _ (by exact rfl) Hsyn'.out HST'.out (by exact ⟨rfl, rfl, rfl, rfl, rfl, rfl, rfl⟩) (by exact rfl) (by exact rfl) (by exact rfl) ?_
          intro f2 w2' q1 q2
          obtain ⟨g0, g3, g4, g5, g23, g24, g25⟩ := q1
          dsimp only [Exit.inBlock, Exit.then]
          rw [fr403, g0, g3, g4, g5, g23, g24, g25]
          have HQ := Lib.hid q2
          clear q2 g0 g3 g4 g5 g23 g24 g25
          have hk64 : k < 1000 := by omega
          unfold ptr
          go_wp2_with fail
          have hlt := Hlt.out
          exact hKr.out _ _ _ (by omega) (Frm.mk _ rfl ⟨k + 1, s', l', by omega, rfl, ⟨rfl, rfl, rfl, rfl, rfl, rfl, by go_num⟩, HQ.out, Hsyn'.out⟩)
  · clear hc hao
    have HST := Lib.hid hST
    clear hST hsyn
    go_wp2_with fail
    go_ret
    exact ⟨rfl, HST.out.drop.drop.nil⟩
end Go.Proofs.Ytdgohegjpehofaa
