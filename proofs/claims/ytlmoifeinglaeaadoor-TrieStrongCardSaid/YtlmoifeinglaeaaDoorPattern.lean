/- Patterns (layer 6): Pattern. -/
import Derived.Test.YtlmoifeinglaeaaDoorPath
import Derived.Test.YtlmoifeinglaeaaDoorMap
namespace Go.Proofs.YtlmoifeinglaeaaDoor
open Go.RowKit

def tokL (x : List UInt8) : Bool := !x.isEmpty && x.all markB
theorem tokB_eq (s : ByteArray) : tokB s = tokL (bl s) := rfl

/-- May a segment stand there: names that were, is it the last one? -/
def segOk (names : List (List UInt8)) (last : Bool) (x : List UInt8) : Bool :=
  if kindL x = 0 then tokL x && !x.contains 37
  else if kindL x = 2 then last && (tokL x.tail && !names.contains x.tail)
  else tokL x.tail && !names.contains x.tail
def addName (names : List (List UInt8)) (x : List UInt8) : List (List UInt8) := if kindL x = 0 then names else names ++ [x.tail]
def segsOk : List (List UInt8) → List (List UInt8) → Bool
  | _, [] => true
  | names, x :: r => segOk names r.isEmpty x && segsOk (addName names x) r

/-- A pattern's segments, and may it be one? -/
def patL (s : List UInt8) : List (List UInt8) × Bool :=
  if s.head? ≠ some 47 then ([], false) else if s = [47] then ([], true) else
  if segsOk [] (wordsL 47 s.tail) then (wordsL 47 s.tail, decide ((wordsL 47 s.tail).length ≤ 8)) else ([], false)

theorem wordsL_len (b : UInt8) (l : List UInt8) : (wordsL b l).length ≤ l.length + 1 := by
  induction l with
  | nil => simp [wordsL]
  | cons c r ih =>
    unfold wordsL
    split
    · simp; omega
    · split
      · rename_i h t e
        rw [e] at ih
        simp at ih ⊢; omega
      · simp

theorem wordsL_mem (b : UInt8) (l : List UInt8) : ∀ x ∈ wordsL b l, x.length ≤ l.length := by
  induction l with
  | nil => simp [wordsL]
  | cons c r ih =>
    intro x hx
    unfold wordsL at hx
    split at hx
    · rcases List.mem_cons.1 hx with rfl | hx
      · simp
      · have := ih x hx; simp; omega
    · split at hx
      · rename_i h t e
        rw [e] at ih
        rcases List.mem_cons.1 hx with rfl | hx
        · have := ih h (by simp); simp; omega
        · have := ih x (by simp [hx]); simp; omega
      · rcases List.mem_cons.1 hx with rfl | hx
        · simp
        · simp at hx

/-- The first piece is the whole where the byte does not occur. -/
theorem wordsL_first (b : UInt8) (x : List UInt8) : ∃ t, wordsL b x = (x.takeWhile (· != b)) :: t := by
  induction x with
  | nil => exact ⟨[], rfl⟩
  | cons c r ih =>
    obtain ⟨t, ih⟩ := ih
    by_cases h : c = b
    · subst h; exact ⟨wordsL c r, by simp [wordsL]⟩
    · exact ⟨t, by rw [wordsL_cons b c r h ih]; simp [h]⟩

theorem takeWhile_ne_iff (b : UInt8) (x : List UInt8) : (x.takeWhile (· != b) = x) ↔ x.contains b = false := by
  induction x with
  | nil => simp
  | cons c r ih =>
    by_cases h : c = b
    · subst h; simp
    · simp [h, ih, Ne.symm h]

theorem beq_ba (a b : ByteArray) : (a == b) = true ↔ a = b := by
  rw [show (a == b) = (a.data == b.data) from rfl, beq_iff_eq]
  constructor
  · intro h; cases a; cases b; simpa using h
  · intro h; rw [h]

theorem lk_names (names : List (List UInt8)) (s : ByteArray) : lk (names.map fun n => (ba n, Value.bool true)) s = if names.contains (bl s) then some (.bool true) else none := by
  induction names with
  | nil => rfl
  | cons n r ih =>
    unfold lk at ih ⊢
    by_cases h : bl s = n
    · subst h
      have e : (s == ba (bl s)) = true := (beq_ba _ _).2 (ba_bl s).symm
      rw [List.map_cons, List.find?_cons]
      simp only [e]
      simp
    · have hne : (s == ba n) = false := by
        cases e : s == ba n with
        | false => rfl
        | true => exact absurd (by rw [(beq_ba _ _).1 e, bl_ba]) h
      rw [List.map_cons, List.find?_cons]
      simp only [hne]
      rw [ih]
      simp [h]

/-- What is read of the list of segments, at one place. -/
theorem Strs.get {w : World} {ao : Option Addr} {l : List (List UInt8)} (h : Strs w ao l) {k : Nat} (hk : k < l.length) :
    ∃ g off, ao = some ⟨g, off, none⟩ ∧ w.cell? ⟨g, off + k, none⟩ = some (.string (ba l[k])) := by
  rcases h with h | ⟨g, off, e, hc⟩
  · subst h; simp at hk
  · exact ⟨g, off, e, by rw [hc k hk]; simp [hk]⟩

theorem zero_bool (w : World) : (zeroValue 4).run Tryd.prog w = .ok (.bool false) w := by kernel_rfl

theorem segsOk_drop (l : List (List UInt8)) (names : List (List UInt8)) (k : Nat) (h : k < l.length) :
    segsOk names (l.drop k) = (segOk names (k + 1 == l.length) l[k] && segsOk (addName names l[k]) (l.drop (k + 1))) := by
  rw [List.drop_eq_getElem_cons h, segsOk]
  congr 2
  have : (l.drop (k + 1)).length = l.length - (k + 1) := List.length_drop
  rw [Bool.eq_iff_iff]
  simp [List.isEmpty_iff]
  omega

set_option maxRecDepth 100000 in
set_option maxHeartbeats 4000000 in
theorem pattern_no (s : ByteArray) (w : World) (h : (bl s).head? ≠ some 47) :
    Calls Tryd.prog 30 #[.string s] w fun e w' => e = .returned (.tuple #[.slice none 0 0, .bool false]) ∧ w = w' := by
  by_cases h0 : s.size = 0
  · have ht : s.toList = [] := by rw [toList_bl]; exact List.eq_nil_of_length_eq_zero (by rw [len_bl]; exact h0)
    clear h
    go_enter Tryd.func30, Tryd.ntmps30
    go_wp2_with fail
    go_ret2
    exact ⟨rfl, rfl⟩
  · have hpos : 0 < s.size := by omega
    have hg := bl_get s 0 hpos
    have ht : s.toList.isEmpty = false := by
      rw [toList_bl]
      cases e : bl s with
      | nil => rw [e] at hg; simp at hg
      | cons c r => rfl
    have h1 : (((s[0].toNat : Nat) : Int) != 47) = true := by
      rw [bne_iff_ne]
      intro e
      apply h
      rw [List.head?_eq_getElem?, hg]
      exact congrArg some ((u8_eq (by decide)).1 (by omega : s[0].toNat = 47))
    clear h hg
    go_enter Tryd.func30, Tryd.ntmps30
    go_wp2_with fail
    go_ret2
    exact ⟨rfl, rfl⟩

set_option maxRecDepth 100000 in
set_option maxHeartbeats 4000000 in
theorem pattern_root (w : World) :
    Calls Tryd.prog 30 #[.string ⟨#[47]⟩] w fun e w' => e = .returned (.tuple #[.slice none 0 0, .bool true]) ∧ w = w' := by
  go_enter Tryd.func30, Tryd.ntmps30
  go_wp2_with fail
  go_ret2
  exact ⟨rfl, rfl⟩

theorem ret_pat {v : Value} {a b : Bool} (h : a = b) : Ending.returned (.tuple #[v, .bool a]) = .returned (.tuple #[v, .bool b]) := by rw [h]

/-- What Pattern leaves. -/
def PatPost (w : World) (l : List (List UInt8)) (ok : Bool) (e : Ending) (w' : World) : Prop :=
  ∃ ao cap, e = .returned (.tuple #[.slice ao l.length cap, .bool ok]) ∧ St w (slo 9 1 ao l.length cap (strs l)) w'
def patR (l : List (List UInt8)) : List (List UInt8) × Bool := if segsOk [] l then (l, decide (l.length ≤ 8)) else ([], false)

theorem PatPost.no {w w' : World} {l : List (List UInt8)} {P : SP} (h : segsOk [] l = false) (hS : St w P w') : PatPost w (patR l).1 (patR l).2 (.returned (.tuple #[.slice none 0 0, .bool false])) w' := by
  unfold patR
  rw [h]
  exact ⟨none, 0, rfl, hS.nil.eq (by simp [strs, slo_nil])⟩

theorem tail_bl (x : List UInt8) : bl ((ba x).extract 1 (ba x).size) = x.tail := by
  rw [bl_extract, bl_ba, size_ba]
  cases x with
  | nil => rfl
  | cons c r => simp

set_option maxRecDepth 100000 in
set_option maxHeartbeats 8000000 in
theorem pattern_some (s : ByteArray) (w : World) (hs : s.size ≤ 1000000) (r : List UInt8) (hr : bl s = 47 :: r) (hne : r ≠ []) :
    Calls Tryd.prog 30 #[.string s] w (PatPost w (patL (bl s)).1 (patL (bl s)).2) := by
  have hp : patL (bl s) = patR (wordsL 47 r) := by
    rw [hr, patL, if_neg (by simp), if_neg (by simpa using hne)]
    rfl
  rw [hp]
  have hpos : 0 < s.size := by rw [← len_bl, hr]; simp
  have hsz : (bl s).length = r.length + 1 := by rw [hr]; simp
  have hg := bl_get s 0 hpos
  have ht : s.toList.isEmpty = false := by rw [toList_bl, hr]; rfl
  have h1 : (((s[0].toNat : Nat) : Int) != 47) = false := by
    rw [hr] at hg
    simp at hg
    rw [← hg]; rfl
  have h2 : (s.toList == [47]) = false := by
    rw [beq_eq_false_iff_ne, toList_bl, hr]
    intro e; apply hne; simpa using e
  have hrest : bl (s.extract 1 s.size) = r := by
    rw [bl_extract, hr]
    simp only [List.drop_succ_cons, List.drop_zero]
    apply List.take_of_length_le
    rw [len_bl] at hsz; omega
  have hwords := words_any (s.extract 1 s.size) 47 w (by simp; omega)
  rw [hrest] at hwords
  have hl1 := wordsL_len 47 r
  have hl2 := wordsL_mem 47 r
  rw [len_bl] at hsz
  have hl3 : (wordsL 47 r).length ≤ 1000000 := by omega
  have hl4 : ∀ x ∈ wordsL 47 r, x.length ≤ 1000000 := fun x hx => by have := hl2 x hx; omega
  have hlpos : 0 < (wordsL 47 r).length := List.length_pos_iff.2 (wordsL_ne 47 r)
  clear hrest hg hr hp hne hsz hl1 hl2
  generalize wordsL 47 r = l at *
  have HL4 := Lib.hid hl4
  clear hl4
  have hmm := @run_makeMap Tryd.prog
  go_enter Tryd.func30, Tryd.ntmps30
  go_wp2_with fail
  refine hwords.mono ?_
  rintro e w1 ⟨ao, cap, rfl, hS⟩
  obtain ⟨gb, off, hao, -⟩ := (hS.eq (SP.mul_one _).symm).strs.get hlpos
  subst hao
  have hS1 : St w (mp w1.heap.size [] * (slo 9 1 (some ⟨gb, off, none⟩) l.length cap (strs l) * 1)) (w1.alloc (.map #[] 0)) := (hS.eq (SP.mul_one _).symm).mp_made
  have H1 := Lib.hid hS1
  clear hS hS1
  clear h2
  go_wp2_with fail
  generalize w1.alloc (.map #[] 0) = w2 at *
  generalize w1.heap.size = mb at *
  clear hmm
  go_loopg [23] (l.length + 1) (fun g i wr => ∃ (k : Nat) (names : List (List UInt8)), g = l.length + 1 - k ∧ k ≤ l.length ∧ i = .int .i64 k ∧ segsOk [] l = segsOk names (l.drop k) ∧
    St w (mp mb (names.map fun n => (ba n, Value.bool true)) * (slo 9 1 (some ⟨gb, off, none⟩) l.length cap (strs l) * 1)) wr)
  case atStart => exact ⟨0, [], rfl, Nat.zero_le _, rfl, rfl, H1.out⟩
  case round =>
    clear H1
    obtain ⟨k, names, rfl, hk, rfl, ho, hST⟩ := hrel
    have HO := Lib.hid ho
    have HST := Lib.hid hST
    clear ho
    by_cases hlt : k < l.length
    · obtain ⟨g2, off2, hao, hcell⟩ := hST.front1.strs.get hlt
      obtain ⟨rfl, rfl⟩ : g2 = gb ∧ off2 = off := by simpa [eq_comm] using hao
      clear hao
      have hxl := HL4.out l[k] (List.getElem_mem hlt)
      have HD := Lib.hid (segsOk_drop l names k hlt)
      obtain ⟨x, hx⟩ : ∃ x, x = l[k] := ⟨_, rfl⟩
      rw [← hx] at hcell hxl
      rw [← hx] at HD
      clear hST hx
      have hkd := fun wq => kind_any (ba x) wq
      simp only [bl_ba] at hkd
      have hsx := size_ba x
      have hsx2 : (ba x).size ≤ 1000000 := by omega
      clear hsx
      rcases kindL_cases x with h0 | h0 | h0
      · -- a word
        simp only [h0] at hkd
        cases htk : tokL x with
        | false =>
          have HSEG : Hid (segOk names (k + 1 == l.length) x = false) := by unfold segOk; rw [h0, htk]; rfl
          have htok := token_any (ba x) wr (by omega)
          rw [tokB_eq, bl_ba, htk] at htok
          clear h0 htk
          go_wp2_with (first | (go_at_call 44; refine (hkd _).mono ?_; rintro e w' ⟨rfl, rfl⟩) | (go_at_call 37; refine htok.mono ?_; rintro e w' ⟨rfl, rfl⟩))
          go_ret2
          exact PatPost.no (by rw [HO.out, HD.out, HSEG.out]; rfl) HST.out
        | true =>
          have htok := token_any (ba x) wr (by omega)
          rw [tokB_eq, bl_ba, htk] at htok
          have hwx := words_any (ba x) 37 wr hsx2
          rw [bl_ba] at hwx
          obtain ⟨tl, htl⟩ := wordsL_first 37 x
          have hwpos : 0 < (wordsL 37 x).length := by rw [htl]; simp
          have hw0 : (wordsL 37 x)[0] = x.takeWhile (· != 37) := by simp [htl]
          cases hpc : x.contains 37 with
          | true =>
            have HSEG : Hid (segOk names (k + 1 == l.length) x = false) := by unfold segOk; rw [h0, htk, hpc]; rfl
            have hne0 : ((ba (x.takeWhile (· != 37))).toList == (ba x).toList) = false := by
              rw [beq_eq_false_iff_ne, toList_bl, toList_bl, bl_ba, bl_ba]
              intro e
              rw [(takeWhile_ne_iff 37 x).1 e] at hpc
              cases hpc
            have hne : ((ba (x.takeWhile (· != 37))).toList != (ba x).toList) = true := by
              rw [bne_iff_ne, toList_bl, toList_bl, bl_ba, bl_ba]
              intro e
              rw [(takeWhile_ne_iff 37 x).1 e] at hpc
              cases hpc
            clear h0 htk hpc htl
            go_wp2_with (first | (go_at_call 44; refine (hkd _).mono ?_; rintro e w' ⟨rfl, rfl⟩) | (go_at_call 37; refine htok.mono ?_; rintro e w' ⟨rfl, rfl⟩) | (go_at_call 43; refine hwx.mono ?_; rintro e w3 ⟨ao3, cap3, rfl, hS3⟩; have HS3 := Lib.hid (HST.out.rebase hS3); obtain ⟨g3, off3, hao3, hc3⟩ := HS3.out.strs.get hwpos; rw [hw0] at hc3; simp only [Nat.add_zero] at hc3; subst hao3; clear hS3))
            go_ret2
            exact PatPost.no (by rw [HO.out, HD.out, HSEG.out]; rfl) HS3.out
          | false =>
            have HSEG : Hid (segOk names (k + 1 == l.length) x = true) := by unfold segOk; rw [h0, htk, hpc]; rfl
            have HADD : Hid (addName names x = names) := by unfold addName; rw [h0]; rfl
            rw [(takeWhile_ne_iff 37 x).2 hpc] at hw0
            clear h0 htk hpc htl
            go_wp2_with (first | (go_at_call 44; refine (hkd _).mono ?_; rintro e w' ⟨rfl, rfl⟩) | (go_at_call 37; refine htok.mono ?_; rintro e w' ⟨rfl, rfl⟩) | (go_at_call 43; refine hwx.mono ?_; rintro e w3 ⟨ao3, cap3, rfl, hS3⟩; have HS3 := Lib.hid (HST.out.rebase hS3); obtain ⟨g3, off3, hao3, hc3⟩ := HS3.out.strs.get hwpos; rw [hw0] at hc3; simp only [Nat.add_zero] at hc3; subst hao3; clear hS3))
            go_roundg (l.length + 1 - (k + 1))
            case measure => omega
            case rel => exact ⟨k + 1, names, rfl, by omega, by go_num, by rw [HO.out, HD.out, HSEG.out, HADD.out, Bool.true_and], HS3.out.drop⟩
      · -- any one
        simp only [h0] at hkd
        have hx1 : 1 ≤ (ba x).size := by rw [size_ba]; cases x with | nil => exact absurd h0 (by decide) | cons c r => simp
        have htok := token_any ((ba x).extract 1 (ba x).size) wr (by simp; omega)
        rw [tokB_eq, tail_bl] at htok
        have hlk := lk_names names ((ba x).extract 1 (ba x).size)
        rw [tail_bl] at hlk
        cases htk : tokL x.tail with
        | false =>
          have HSEG := Lib.hid (show segOk names (k + 1 == l.length) x = false by unfold segOk; rw [h0, htk]; (first | rfl | (rw [hcn]; rfl) | (rw [hbe]; rfl) | (rw [hbe, hcn]; rfl)))
          rw [htk] at htok
          clear h0 htk hlk
          go_wp2_with (first | (go_at_call 44; refine (hkd _).mono ?_; rintro e w' ⟨rfl, rfl⟩) | (go_at_call 37; refine htok.mono ?_; rintro e w' ⟨rfl, rfl⟩))
          go_ret2
          exact PatPost.no (by rw [HO.out, HD.out, HSEG.out]; rfl) HST.out
        | true =>
          rw [htk] at htok
          cases hcn : names.contains x.tail with
          | true =>
            have HSEG := Lib.hid (show segOk names (k + 1 == l.length) x = false by unfold segOk; rw [h0, htk]; (first | rfl | (rw [hcn]; rfl) | (rw [hbe]; rfl) | (rw [hbe, hcn]; rfl)))
            rw [hcn] at hlk
            replace hlk : (lk (names.map fun n => (ba n, Value.bool true)) ((ba x).extract 1 (ba x).size)).getD (.bool false) = .bool true := by rw [hlk]; rfl
            clear h0 htk hcn
            go_wp2_with (first | (go_at_call 44; refine (hkd _).mono ?_; rintro e w' ⟨rfl, rfl⟩) | (go_at_call 37; refine htok.mono ?_; rintro e w' ⟨rfl, rfl⟩) | (at_lookup; go_loud (refine wpList_lookup_mp (by rfl) _ _ 53 rfl Tryd.underlying53 Tryd.underlying9 (.bool false) (zero_bool _) HST.out rfl ((ba x).extract 1 (ba x).size) rfl ?_; intro v hv; rw [hlk] at hv; subst hv)))
            go_ret2
            exact PatPost.no (by rw [HO.out, HD.out, HSEG.out]; rfl) HST.out
          | false =>
            have HSEG := Lib.hid (show segOk names (k + 1 == l.length) x = true by unfold segOk; rw [h0, htk]; (first | rfl | (rw [hcn]; rfl) | (rw [hbe]; rfl) | (rw [hbe, hcn]; rfl)))
            have HADD : Hid (addName names x = names ++ [x.tail]) := by unfold addName; rw [h0]; rfl
            rw [hcn] at hlk
            have hno : Hid (lk (names.map fun n => (ba n, Value.bool true)) ((ba x).extract 1 (ba x).size) = none) := by rw [hlk]; rfl
            replace hlk : (lk (names.map fun n => (ba n, Value.bool true)) ((ba x).extract 1 (ba x).size)).getD (.bool false) = .bool false := by rw [hlk]; rfl
            clear h0 htk hcn
            go_wp2_with (first | (go_at_call 44; refine (hkd _).mono ?_; rintro e w' ⟨rfl, rfl⟩) | (go_at_call 37; refine htok.mono ?_; rintro e w' ⟨rfl, rfl⟩) | (at_lookup; go_loud (refine wpList_lookup_mp (by rfl) _ _ 53 rfl Tryd.underlying53 Tryd.underlying9 (.bool false) (zero_bool _) HST.out rfl ((ba x).extract 1 (ba x).size) rfl ?_; intro v hv; rw [hlk] at hv; subst hv)) | (at_mapUpdate; refine wpList_update_mp rfl _ _ _ 53 rfl Tryd.underlying53 Tryd.underlying9 HST.out rfl ((ba x).extract 1 (ba x).size) rfl (.bool true) rfl hno.out ?_; intro w3 hw3; have HW3 := Lib.hid hw3; clear hw3))
            go_roundg (l.length + 1 - (k + 1))
            case measure => omega
            case rel => exact ⟨k + 1, names ++ [x.tail], rfl, by omega, by go_num, by rw [HO.out, HD.out, HSEG.out, HADD.out, Bool.true_and], HW3.out.eq (by rw [List.map_append, List.map_cons, List.map_nil, ← tail_bl x, ba_bl])⟩
      · -- all that follow
        simp only [h0] at hkd
        by_cases hlast : k + 1 = l.length
        · have hbe : (k + 1 == l.length) = true := by simpa using hlast
          have hne2 : ((k : Int) != (l.length : Int) - 1) = false := by rw [bne_eq_false_iff_eq]; omega
          have hx1 : 1 ≤ (ba x).size := by rw [size_ba]; cases x with | nil => exact absurd h0 (by decide) | cons c r => simp
          have htok := token_any ((ba x).extract 1 (ba x).size) wr (by simp; omega)
          rw [tokB_eq, tail_bl] at htok
          have hlk := lk_names names ((ba x).extract 1 (ba x).size)
          rw [tail_bl] at hlk
          cases htk : tokL x.tail with
          | false =>
            have HSEG := Lib.hid (show segOk names (k + 1 == l.length) x = false by unfold segOk; rw [h0, htk]; (first | rfl | (rw [hcn]; rfl) | (rw [hbe]; rfl) | (rw [hbe, hcn]; rfl)))
            rw [htk] at htok
            clear h0 htk hlk
            go_wp2_with (first | (go_at_call 44; refine (hkd _).mono ?_; rintro e w' ⟨rfl, rfl⟩) | (go_at_call 37; refine htok.mono ?_; rintro e w' ⟨rfl, rfl⟩))
            go_ret2
            exact PatPost.no (by rw [HO.out, HD.out, HSEG.out]; rfl) HST.out
          | true =>
            rw [htk] at htok
            cases hcn : names.contains x.tail with
            | true =>
              have HSEG := Lib.hid (show segOk names (k + 1 == l.length) x = false by unfold segOk; rw [h0, htk]; (first | rfl | (rw [hcn]; rfl) | (rw [hbe]; rfl) | (rw [hbe, hcn]; rfl)))
              rw [hcn] at hlk
              replace hlk : (lk (names.map fun n => (ba n, Value.bool true)) ((ba x).extract 1 (ba x).size)).getD (.bool false) = .bool true := by rw [hlk]; rfl
              clear h0 htk hcn
              go_wp2_with (first | (go_at_call 44; refine (hkd _).mono ?_; rintro e w' ⟨rfl, rfl⟩) | (go_at_call 37; refine htok.mono ?_; rintro e w' ⟨rfl, rfl⟩) | (at_lookup; go_loud (refine wpList_lookup_mp (by rfl) _ _ 53 rfl Tryd.underlying53 Tryd.underlying9 (.bool false) (zero_bool _) HST.out rfl ((ba x).extract 1 (ba x).size) rfl ?_; intro v hv; rw [hlk] at hv; subst hv)))
              go_ret2
              exact PatPost.no (by rw [HO.out, HD.out, HSEG.out]; rfl) HST.out
            | false =>
              have HSEG := Lib.hid (show segOk names (k + 1 == l.length) x = true by unfold segOk; rw [h0, htk]; (first | rfl | (rw [hcn]; rfl) | (rw [hbe]; rfl) | (rw [hbe, hcn]; rfl)))
              have HADD : Hid (addName names x = names ++ [x.tail]) := by unfold addName; rw [h0]; rfl
              rw [hcn] at hlk
              have hno : Hid (lk (names.map fun n => (ba n, Value.bool true)) ((ba x).extract 1 (ba x).size) = none) := by rw [hlk]; rfl
              replace hlk : (lk (names.map fun n => (ba n, Value.bool true)) ((ba x).extract 1 (ba x).size)).getD (.bool false) = .bool false := by rw [hlk]; rfl
              clear h0 htk hcn
              go_wp2_with (first | (go_at_call 44; refine (hkd _).mono ?_; rintro e w' ⟨rfl, rfl⟩) | (go_at_call 37; refine htok.mono ?_; rintro e w' ⟨rfl, rfl⟩) | (at_lookup; go_loud (refine wpList_lookup_mp (by rfl) _ _ 53 rfl Tryd.underlying53 Tryd.underlying9 (.bool false) (zero_bool _) HST.out rfl ((ba x).extract 1 (ba x).size) rfl ?_; intro v hv; rw [hlk] at hv; subst hv)) | (at_mapUpdate; refine wpList_update_mp rfl _ _ _ 53 rfl Tryd.underlying53 Tryd.underlying9 HST.out rfl ((ba x).extract 1 (ba x).size) rfl (.bool true) rfl hno.out ?_; intro w3 hw3; have HW3 := Lib.hid hw3; clear hw3))
              go_roundg (l.length + 1 - (k + 1))
              case measure => omega
              case rel => exact ⟨k + 1, names ++ [x.tail], rfl, by omega, by go_num, by rw [HO.out, HD.out, HSEG.out, HADD.out, Bool.true_and], HW3.out.eq (by rw [List.map_append, List.map_cons, List.map_nil, ← tail_bl x, ba_bl])⟩
        · have HSEG := Lib.hid (show segOk names (k + 1 == l.length) x = false by unfold segOk; simp [h0, hlast])
          have hne2 : ((k : Int) != (l.length : Int) - 1) = true := by rw [bne_iff_ne]; omega
          clear h0
          go_wp2_with (go_at_call 44; refine (hkd _).mono ?_; rintro e w' ⟨rfl, rfl⟩)
          go_ret2
          exact PatPost.no (by rw [HO.out, HD.out, HSEG.out]; rfl) HST.out
    · have hdn : segsOk [] l = true := by rw [HO.out, List.drop_eq_nil_of_le (by omega)]; rfl
      have HDN := Lib.hid hdn
      clear hdn
      go_wp2_with fail
      go_ret2
      refine ⟨some ⟨gb, off, none⟩, cap, ?_, ?_⟩
      · unfold patR; rw [HDN.out]; exact ret_pat (by rw [Bool.eq_iff_iff]; simp; omega)
      · unfold patR; rw [HDN.out]; exact HST.out.drop.eq (SP.mul_one _)

theorem pattern_any (s : ByteArray) (w : World) (hs : s.size ≤ 1000000) :
    Calls Tryd.prog 30 #[.string s] w (PatPost w (patL (bl s)).1 (patL (bl s)).2) := by
  by_cases h : (bl s).head? = some 47
  · obtain ⟨r, hr⟩ : ∃ r, bl s = 47 :: r := by
      cases e : bl s with
      | nil => rw [e] at h; cases h
      | cons c r => rw [e] at h; simp at h; exact ⟨r, by rw [h]⟩
    by_cases hne : r = []
    · subst hne
      have hs' : s = ⟨#[47]⟩ := bl_inj hr
      have hp : patL (bl s) = ([], true) := by rw [hr]; rfl
      rw [hp]
      subst hs'
      refine (pattern_root w).mono ?_
      rintro e w' ⟨rfl, rfl⟩
      exact ⟨none, 0, rfl, (St.refl _).eq (by simp [strs, slo_nil])⟩
    · exact pattern_some s w hs r hr hne
  · have hp : patL (bl s) = ([], false) := by unfold patL; rw [if_pos h]
    rw [hp]
    refine (pattern_no s w h).mono ?_
    rintro e w' ⟨rfl, rfl⟩
    exact ⟨none, 0, rfl, (St.refl _).eq (by simp [strs, slo_nil])⟩

end Go.Proofs.YtlmoifeinglaeaaDoor
