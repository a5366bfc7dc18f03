/- Signs of texts (layer 1): Words. -/
import Derived.Test.YtlmoifeinglaeaaDoorAscii
namespace Go.Proofs.YtlmoifeinglaeaaDoor
open Go.RowKit

theorem cells_one (w : World) (v : Value) (T : TypeId) : ∀ (j : Nat) (u : Value), [v][j]? = some u → (w.alloc (.cells #[v] T)).cell? ((⟨w.heap.size, 0, none⟩ : Addr).add j) = some u := by
  intro j u hj
  match j, hj with
  | 0, hj => simp at hj; subst hj; simp [Addr.add]

theorem one_cell (s : ByteArray) : ∀ u ∈ [Value.string s], u.oneCell' = true := by
  intro u hu; simp at hu; subst hu; rfl

theorem St.front1 {w0 w : World} {A B C : SP} (h : St w0 (A * (B * C)) w) : St w0 (B * (A * C)) w := h.eq (SP.mul_left_comm _ _ _)

theorem info_string : (Tryd.prog.info? 9).map (fun i => (i.zero, i.size, i.bytes)) = some (some (.string ByteArray.empty), 1, 16) := by kernel_rfl

/-- A list of texts as values. -/
def strs (l : List (List UInt8)) : List Value := l.map fun x => .string (ba x)
theorem strs_length (l : List (List UInt8)) : (strs l).length = l.length := by simp [strs]
theorem strs_snoc (l : List (List UInt8)) (s : ByteArray) : strs l ++ [.string s] = strs (l ++ [bl s]) := by simp [strs, ba_bl]

/-- Where 'Words' is. -/
def WordsIn (b : UInt8) (s : ByteArray) (out : List (List UInt8)) (frm i : Nat) : Prop :=
  (i ≤ s.size ∧ WordsAt b (bl s) out frm i ∧ out.length ≤ i) ∨ (i = s.size + 1 ∧ out = wordsL b (bl s) ∧ out.length ≤ i)

set_option maxRecDepth 100000 in
set_option maxHeartbeats 2000000 in
theorem words_any (s : ByteArray) (b : UInt8) (w : World) (hs : s.size ≤ 1000000) :
    Calls Tryd.prog 43 #[.string s, .int .u8 (b.toNat : Nat)] w fun e w' => ∃ ao cap,
      e = .returned (.slice ao (wordsL b (bl s)).length cap) ∧ St w (slo 9 1 ao (wordsL b (bl s)).length cap (strs (wordsL b (bl s)))) w' := by
  obtain ⟨i0, hi, hz0, hz1, hz2⟩ := info_parts info_string
  go_enter Tryd.func43, Tryd.ntmps43
  go_wp2_with fail
  go_loopg [5, 6, 11] (s.size + 2) (fun g o f i wr => ∃ (ao : Option Addr) (cap : Nat) (out : List (List UInt8)) (frm k : Nat), g = s.size + 2 - k ∧ k ≤ s.size + 1 ∧ o = .slice ao out.length cap ∧ f = .int .i64 frm ∧ i = .int .i64 k ∧
    WordsIn b s out frm k ∧ St w (slo 9 1 ao out.length cap (strs out) * 1) wr)
  case atStart => exact ⟨none, 0, [], 0, 0, rfl, Nat.zero_le _, rfl, rfl, rfl, .inl ⟨Nat.zero_le _, WordsAt.start _ _, Nat.le_refl _⟩, (St.refl w).eq (by simp [strs, slo_nil, SP.mul_one])⟩
  case round =>
    obtain ⟨ao, cap, out, frm, k, rfl, hk, rfl, rfl, rfl, hin, hST⟩ := hrel
    have HST := Lib.hid hST
    clear hST
    by_cases hlt : k ≤ s.size
    · obtain ⟨-, hat, hfew⟩ : k ≤ s.size ∧ WordsAt b (bl s) out frm k ∧ out.length ≤ k := by
        rcases hin with h | h
        · exact h
        · omega
      have hfk := hat.1
      have HAT := Lib.hid hat
      clear hat hin
      by_cases he : (k = s.size) ∨ (∃ h : k < s.size, s[k] = b)
      · have hwin : WordsIn b s (out ++ [bl (s.extract frm k)]) (k + 1) (k + 1) := by
          rcases he with rfl | ⟨h, hb⟩
          · refine .inr ⟨rfl, ?_, by simp; omega⟩
            have := HAT.out
            rw [← len_bl] at this
            rw [this.done, bl_extract, len_bl]
          · refine .inl ⟨by omega, ?_, by simp; omega⟩
            rw [bl_extract]
            exact HAT.out.hit (by rw [bl_get s k h, hb])
        have HWIN := Lib.hid hwin
        clear hwin
        by_cases he1 : k = s.size
        · subst he1
          go_wp2_with (at_builtin; refine wpList_append_slo rfl _ _ 37 rfl i0 (.string ByteArray.empty) 16 Tryd.underlying37 hi hz0 hz1 hz2 rfl (by decide) (HST.out.alloc1 _) rfl ⟨wr.heap.size, 0, none⟩ 1 1 [.string (s.extract frm s.size)] rfl rfl (cells_one _ _ _) (one_cell _) (by omega) (by unfold maxLen; omega) ?_; intro ao' cap' w1 hw1; have HW1 := Lib.hid hw1; clear hw1)
          have g1 := HW1.out.front1.drop
          rw [strs_snoc] at g1
          have HG1 := Lib.hid g1
          clear g1
          go_roundg (s.size + 2 - (s.size + 1))
          case measure => omega
          case rel => exact ⟨ao', cap', out ++ [bl (s.extract frm s.size)], s.size + 1, s.size + 1, rfl, by omega, by simp, by go_num, by go_num, HWIN.out, HG1.out.eq (by simp)⟩
        · obtain ⟨h, hb⟩ : ∃ h : k < s.size, s[k] = b := by
            rcases he with h | h
            · exact absurd h he1
            · exact h
          clear he
          subst hb
          go_wp2_with (at_builtin; refine wpList_append_slo rfl _ _ 37 rfl i0 (.string ByteArray.empty) 16 Tryd.underlying37 hi hz0 hz1 hz2 rfl (by decide) (HST.out.alloc1 _) rfl ⟨wr.heap.size, 0, none⟩ 1 1 [.string (s.extract frm k)] rfl rfl (cells_one _ _ _) (one_cell _) (by omega) (by unfold maxLen; omega) ?_; intro ao' cap' w1 hw1; have HW1 := Lib.hid hw1; clear hw1)
          have g1 := HW1.out.front1.drop
          rw [strs_snoc] at g1
          have HG1 := Lib.hid g1
          clear g1
          go_roundg (s.size + 2 - (k + 1))
          case measure => omega
          case rel => exact ⟨ao', cap', out ++ [bl (s.extract frm k)], k + 1, k + 1, rfl, by omega, by simp, by go_num, by go_num, HWIN.out, HG1.out.eq (by simp)⟩
      · have hne : k ≠ s.size := fun h => he (.inl h)
        have hlt2 : k < s.size := by omega
        have hnb : s[k] ≠ b := fun h => he (.inr ⟨hlt2, h⟩)
        have hwin : WordsIn b s out frm (k + 1) := .inl ⟨by omega, HAT.out.miss (bl_get s k hlt2) hnb, by omega⟩
        have HWIN := Lib.hid hwin
        have htest : (((s[k].toNat : Nat) : Int) == ((b.toNat : Nat) : Int)) = false := by
          rw [beq_eq_false_iff_ne]
          intro h
          exact hnb (UInt8.toNat_inj.1 (by omega))
        clear he hnb hwin
        go_wp2_with fail
        go_roundg (s.size + 2 - (k + 1))
        case measure => omega
        case rel => exact ⟨ao, cap, out, frm, k + 1, rfl, by omega, rfl, rfl, by go_num, HWIN.out, HST.out⟩
    · have hfin : out = wordsL b (bl s) := by
        rcases hin with h | h
        · omega
        · exact h.2.1
      subst hfin
      clear hin
      go_wp2_with fail
      go_ret
      exact ⟨ao, cap, rfl, HST.out.eq (SP.mul_one _)⟩

end Go.Proofs.YtlmoifeinglaeaaDoor
