/- Trees of routes (layer 8): Match's closure: what it does to the match with the routes that end at a path. -/
import Derived.Test.YtlmoifeinglaeaaDoorContains
import Derived.Test.YtlmoifeinglaeaaDoorParams
import Derived.Test.YtlmoifeinglaeaaDoorTrieH
namespace Go.Proofs.YtlmoifeinglaeaaDoor
open Go.RowKit
attribute [local go_sem ↓] Go.wp_at_zero Go.wp_at_succ

/-- A match in the making: none yet, these methods. -/
def mOpen (b : Nat) (acc : List (List UInt8)) : SP := SP.ex fun x : Option Addr × Nat =>
  SP.blk b (.cells #[.string (ba []), .slice none 0 0, .slice x.1 acc.length x.2] 42) * slo 9 1 x.1 acc.length x.2 (strs acc)
/-- A match that is made. -/
def mHit (b : Nat) (h : List UInt8) (ps : List (List UInt8 × List UInt8)) : SP := SP.ex fun x : Option Addr × Nat =>
  SP.blk b (.cells #[.string (ba h), .slice x.1 ps.length x.2, .slice none 0 0] 42) * slo 51 2 x.1 ps.length x.2 (prmC ps)

/-- The variables that the closure has. -/
def boxes (F : SP) (p4 p5 : Nat) (m : List UInt8) (ao : Option Addr) (n cap : Nat) (X : SP) : SP :=
  SP.blk p4 (.cells #[.string (ba m)] 9) * (SP.blk p5 (.cells #[.slice ao n cap] 37) * (F * X))

/-- A method more, if it is not there. -/
def addM (acc : List (List UInt8)) (x : List UInt8) : List (List UInt8) := if x ∈ acc then acc else acc ++ [x]
def addAll (acc : List (List UInt8)) (R : List Rt) : List (List UInt8) := R.foldl (fun a r => addM a r.m) acc
theorem addM_len (acc : List (List UInt8)) (x : List UInt8) : (addM acc x).length ≤ acc.length + 1 := by unfold addM; split <;> simp
theorem addAll_len (acc : List (List UInt8)) (R : List Rt) : (addAll acc R).length ≤ acc.length + R.length := by
  induction R generalizing acc with
  | nil => simp [addAll]
  | cons r R ih =>
    have := ih (addM acc r.m)
    have h2 := addM_len acc r.m
    simp only [addAll, List.foldl_cons, List.length_cons] at this ⊢
    omega
theorem addAll_snoc (acc : List (List UInt8)) (R : List Rt) (r : Rt) : addAll acc (R ++ [r]) = addM (addAll acc R) r.m := by simp [addAll]

/-- What is made of routes. -/
def stateOf (b : Nat) (m : List UInt8) (l : List (List UInt8)) (acc : List (List UInt8)) (R : List Rt) : SP :=
  match R.find? fun r => decide (r.m = m) with
  | some r => mHit b r.h (prmL l (segR r))
  | none => mOpen b (addAll acc R)

def YieldPost (F : SP) (w0 : World) (p4 p5 p8 : Nat) (m : List UInt8) (ao : Option Addr) (cap : Nat) (l acc : List (List UInt8)) (R : List Rt) (e : Ending) (w' : World) : Prop :=
  e = .returned (.bool (R.find? fun r => decide (r.m = m)).isNone) ∧ St w0 (boxes F p4 p5 m ao l.length cap (stateOf p8 m l acc R)) w'

/-- What is asked of a route that a path has. -/
def Fits (l : List (List UInt8)) (r : Rt) : Prop := hasL (segR r) l = true ∧ r.p.length ≤ 300000

/-- The state in the making, laid open. -/
def mO (F : SP) (p4 p5 p8 : Nat) (m : List UInt8) (ao : Option Addr) (n cap : Nat) (aa : Option Addr) (ac : Nat) (acc : List (List UInt8)) : SP :=
  SP.blk p8 (.cells #[.string (ba []), .slice none 0 0, .slice aa acc.length ac] 42) * (slo 9 1 aa acc.length ac (strs acc) * (SP.blk p4 (.cells #[.string (ba m)] 9) * (SP.blk p5 (.cells #[.slice ao n cap] 37) * F)))
theorem boxes_ex {α : Type} {F : SP} {w0 w : World} {p4 p5 : Nat} {m : List UInt8} {ao : Option Addr} {n cap : Nat} {P : α → SP} : St w0 (boxes F p4 p5 m ao n cap (SP.ex P)) w ↔ ∃ x, St w0 (P x * (SP.blk p4 (.cells #[.string (ba m)] 9) * (SP.blk p5 (.cells #[.slice ao n cap] 37) * F))) w := by
  have e : ∀ X : SP, boxes F p4 p5 m ao n cap X = X * (SP.blk p4 (.cells #[.string (ba m)] 9) * (SP.blk p5 (.cells #[.slice ao n cap] 37) * F)) := by
    intro X; unfold boxes; ac_rfl
  rw [e]
  constructor
  · intro h; exact h.ex_get
  · rintro ⟨x, h⟩; exact h.ex_put x
theorem mO_open {F : SP} {w0 w : World} {p4 p5 p8 : Nat} {m : List UInt8} {ao : Option Addr} {n cap : Nat} {acc : List (List UInt8)} : St w0 (boxes F p4 p5 m ao n cap (mOpen p8 acc)) w ↔ ∃ aa ac, St w0 (mO F p4 p5 p8 m ao n cap aa ac acc) w := by
  unfold mOpen
  rw [boxes_ex]
  constructor
  · rintro ⟨⟨aa, ac⟩, h⟩; exact ⟨aa, ac, h.eq (SP.mul_assoc _ _ _)⟩
  · rintro ⟨aa, ac, h⟩; exact ⟨⟨aa, ac⟩, h.eq (SP.mul_assoc _ _ _).symm⟩
theorem mO_4 {F : SP} {p4 p5 p8 : Nat} {m : List UInt8} {ao : Option Addr} {n cap : Nat} {aa : Option Addr} {ac : Nat} {acc : List (List UInt8)} : mO F p4 p5 p8 m ao n cap aa ac acc = SP.blk p4 (.cells #[.string (ba m)] 9) * (SP.blk p8 (.cells #[.string (ba []), .slice none 0 0, .slice aa acc.length ac] 42) * (slo 9 1 aa acc.length ac (strs acc) * (SP.blk p5 (.cells #[.slice ao n cap] 37) * F))) := by unfold mO; ac_rfl
theorem mO_5 {F : SP} {p4 p5 p8 : Nat} {m : List UInt8} {ao : Option Addr} {n cap : Nat} {aa : Option Addr} {ac : Nat} {acc : List (List UInt8)} : mO F p4 p5 p8 m ao n cap aa ac acc = SP.blk p5 (.cells #[.slice ao n cap] 37) * (SP.blk p8 (.cells #[.string (ba []), .slice none 0 0, .slice aa acc.length ac] 42) * (slo 9 1 aa acc.length ac (strs acc) * (SP.blk p4 (.cells #[.string (ba m)] 9) * F))) := by unfold mO; ac_rfl
theorem mO_a {F : SP} {p4 p5 p8 : Nat} {m : List UInt8} {ao : Option Addr} {n cap : Nat} {aa : Option Addr} {ac : Nat} {acc : List (List UInt8)} : mO F p4 p5 p8 m ao n cap aa ac acc = slo 9 1 aa acc.length ac (strs acc) * (SP.blk p8 (.cells #[.string (ba []), .slice none 0 0, .slice aa acc.length ac] 42) * (SP.blk p4 (.cells #[.string (ba m)] 9) * (SP.blk p5 (.cells #[.slice ao n cap] 37) * F))) := by unfold mO; ac_rfl

theorem St.alloc1' {w0 w : World} {A R : SP} (h : St w0 (A * R) w) (o : Obj) : St w0 (A * (SP.blk w.heap.size o * R)) (w.alloc o) := (h.alloc o).eq (SP.mul_left_comm _ _ _)

theorem SP.rot4 (s b c d e : SP) : s * (b * (c * (d * e))) = d * (s * (e * (b * c))) := by ac_rfl
theorem St.drop2 {w0 w : World} {a s e b c : SP} (h : St w0 (a * (s * (e * (b * c)))) w) : St w0 (a * (s * e)) w :=
  (h.eq (by ac_rfl : _ = (b * c) * (a * (s * e)))).drop

theorem St.drop3 {w0 w : World} {a s b c d : SP} (h : St w0 (a * (s * (b * (c * d)))) w) : St w0 ((a * s) * d) w :=
  (h.eq (by ac_rfl : _ = (b * c) * ((a * s) * d))).drop

theorem find_at {R : List Rt} {m : List UInt8} {k : Nat} (hk : k < R.length) (hno : ∀ j (h : j < R.length), j < k → R[j].m ≠ m) (h : R[k].m = m) : (R.find? fun r => decide (r.m = m)) = some R[k] := by
  rw [List.find?_eq_some_iff_getElem]
  exact ⟨by simpa using h, k, hk, rfl, fun j hj => by simpa using hno j (by omega) hj⟩
theorem find_no {R : List Rt} {m : List UInt8} (hno : ∀ j (h : j < R.length), R[j].m ≠ m) : (R.find? fun r => decide (r.m = m)) = none := by
  rw [List.find?_eq_none]
  intro x hx
  obtain ⟨j, hj, rfl⟩ := List.mem_iff_getElem.1 hx
  simpa using hno j hj

set_option maxRecDepth 100000 in
set_option maxHeartbeats 8000000 in
theorem yield_any (F : SP) (w0 : World) (p4 p5 p8 : Nat) (m : List UInt8) (ao : Option Addr) (cap : Nat) (l acc : List (List UInt8)) (R : List Rt) (ro : Option Addr) (rcap : Nat) (w : World)
    (hS : St w0 (boxes F p4 p5 m ao l.length cap (mOpen p8 acc)) w) (hl : Strs w0 ao l) (hcap : l.length ≤ cap) (ht : total l ≤ 100000) (hR : Rts w0 ro R) (hn : acc.length + R.length ≤ 100000) (hfit : ∀ r ∈ R, Fits l r) :
    Calls Tryd.prog 33 #[.slice ro R.length rcap, .pointer (some ⟨p4, 0, none⟩), .pointer (some ⟨p5, 0, none⟩), .pointer (some ⟨p8, 0, none⟩)] w (YieldPost F w0 p4 p5 p8 m ao cap l acc R) := by
  obtain ⟨i0, hi, hz0, hz1, hz2⟩ := info_parts info_string
  have HS := Lib.hid hS
  have HL := Lib.hid hl
  have HR := Lib.hid hR
  have HF := Lib.hid hfit
  clear hS hl hR hfit
  go_enter Tryd.func33, Tryd.ntmps33
  go_wp2_with fail
  go_loopg [10] (R.length + 1) (fun gh j wr => ∃ (k : Nat) (aa : Option Addr) (ac : Nat), gh = R.length + 1 - k ∧ k ≤ R.length ∧ j = .int .i64 k ∧ St w0 (mO F p4 p5 p8 m ao l.length cap aa ac (addAll acc (R.take k))) wr ∧ (∀ j (h : j < R.length), j < k → R[j].m ≠ m))
  case atStart =>
    obtain ⟨aa, ac, h⟩ := mO_open.1 HS.out
    exact ⟨0, aa, ac, rfl, Nat.zero_le _, rfl, h, fun j _ h => absurd h (Nat.not_lt_zero _)⟩
  case round =>
    obtain ⟨k, aa, ac, rfl, hk, rfl, hW, hno⟩ := hrel
    have HNO := Lib.hid hno
    have HW := Lib.hid hW
    clear hW hno
    have hal := addAll_len acc (R.take k)
    have hal2 : (R.take k).length ≤ k := List.length_take_le _ _
    by_cases hlt : k < R.length
    · obtain ⟨g, off, rfl, d0, d1, d2⟩ := (HR.out.step HW.out).get hlt
      have hfk := HF.out _ (List.getElem_mem hlt)
      have hsn := addAll_snoc acc (R.take k) R[k]
      have htk : R.take k ++ [R[k]] = R.take (k + 1) := by simp
      rw [htk] at hsn
      obtain ⟨x, hx⟩ : ∃ x, x = R[k] := ⟨_, rfl⟩
      rw [← hx] at d0 d1 d2 hfk hsn
      have HX := Lib.hid hx
      have HSN := Lib.hid hsn
      have HFK := Lib.hid hfk
      have c4 : wr.cell? ⟨p4, 0, none⟩ = some (.string (ba m)) := (HW.out.eq mO_4).cell 0
      have l4 : p4 < wr.heap.size := (HW.out.eq mO_4).lt
      have hkI : (k : Int) < (R.length : Int) := by omega
      have c4' : (wr.alloc (.cells #[.string (ba x.m), .string (ba x.p), .string (ba x.h)] 39)).cell? ⟨p4, 0, none⟩ = some (.string (ba m)) := (((St.refl wr).alloc _).below.cell (p := ⟨p4, 0, none⟩) l4).trans c4
      clear hx hsn hfk htk
      generalize addAll acc (R.take k) = av at *
      have hX4 := HW.out.alloc1' (.cells #[.string (ba x.m), .string (ba x.p), .string (ba x.h)] 39)
      have c8 : ∀ i, (wr.alloc (.cells #[.string (ba x.m), .string (ba x.p), .string (ba x.h)] 39)).cell? ⟨p8, i, none⟩ = (#[.string (ba []), .slice none 0 0, .slice aa av.length ac] : Array Value)[i]? := fun i => hX4.cell i
      have c5 : (wr.alloc (.cells #[.string (ba x.m), .string (ba x.p), .string (ba x.h)] 39)).cell? ⟨p5, 0, none⟩ = some (.slice ao l.length cap) := ((HW.out.eq mO_5).alloc1' (.cells #[.string (ba x.m), .string (ba x.p), .string (ba x.h)] 39)).cell 0
      have e0 : (wr.alloc (.cells #[.string (ba x.m), .string (ba x.p), .string (ba x.h)] 39)).cell? ⟨wr.heap.size, 0, none⟩ = some (.string (ba x.m)) := (HW.out.alloc (.cells #[.string (ba x.m), .string (ba x.p), .string (ba x.h)] 39)).cell 0
      have e1 : (wr.alloc (.cells #[.string (ba x.m), .string (ba x.p), .string (ba x.h)] 39)).cell? ⟨wr.heap.size, 1, none⟩ = some (.string (ba x.p)) := (HW.out.alloc (.cells #[.string (ba x.m), .string (ba x.p), .string (ba x.h)] 39)).cell 1
      have e2 : (wr.alloc (.cells #[.string (ba x.m), .string (ba x.p), .string (ba x.h)] 39)).cell? ⟨wr.heap.size, 2, none⟩ = some (.string (ba x.h)) := (HW.out.alloc (.cells #[.string (ba x.m), .string (ba x.p), .string (ba x.h)] 39)).cell 2
      have hS4 : St w0 1 (wr.alloc (.cells #[.string (ba x.m), .string (ba x.p), .string (ba x.h)] 39)) := hX4.nil
      have HX4 := Lib.hid hX4
      clear hX4
      by_cases he : x.m = m
      · have t1 : ((ba x.m).toList == (ba m).toList) = true := by rw [same_text]; exact decide_eq_true he
        have HE := Lib.hid he
        have hprm := fun (wq : World) (P : SP) (h : St w0 P wq) => params_any x ao cap l wq (HL.out.step h) hcap ht HFK.out.1 HFK.out.2
        have HP := Lib.hid hprm
        have HS4 := Lib.hid hS4
        clear he hprm hS4
        have k0 := c8 0
        have k1 := c8 1
        have k2 := c8 2
        simp only [List.getElem?_toArray] at k0 k1 k2
        clear c8
        go_wp2_with fail
        have heb : wr.heap.size < (wr.alloc (.cells #[.string (ba x.m), .string (ba x.p), .string (ba x.h)] 39)).heap.size := by simp
        generalize wr.alloc (.cells #[.string (ba x.m), .string (ba x.p), .string (ba x.h)] 39) = w4 at *
        generalize wr.heap.size = eb at *
        go_region_with (go_at_call 34; refine (HP.out _ _ HS4.out.drew).mono ?_; rintro e w5 ⟨pa, pc, rfl, hS5⟩; have hx := (HX4.out.drew.rebase hS5).eq (SP.mul_left_comm _ _ _); have f0 := hx.cell 0; have f1 := hx.cell 1; have f2 := hx.cell 2; have ff := fun i => hx.free i; have g2 := (hS5.below.cell (p := ⟨eb, 2, none⟩) heb).trans e2; have HY := Lib.hid hx; simp at f0 f1 f2; clear hS5 hx)
        all_goals
          go_wp2_with fail
          go_ret
          have hx := HX.out
          subst hx
          have hfd := find_at hlt HNO.out HE.out
          refine ⟨by rw [hfd]; rfl, ?_⟩
          unfold stateOf
          rw [hfd]
          refine boxes_ex.2 ⟨(pa, pc), ?_⟩
          exact (((HY.out.setCell (i := 0) (.string (ba R[k].h))).setCell (i := 1) (.slice pa (prmL l (segR R[k])).length pc)).setCell (i := 2) (.slice none 0 0)).drop3
      · have t1 : ((ba x.m).toList == (ba m).toList) = false := by rw [same_text]; exact decide_eq_false he
        have HE := Lib.hid he
        clear he
        have k2 : (wr.alloc (.cells #[.string (ba x.m), .string (ba x.p), .string (ba x.h)] 39)).cell? ⟨p8, 2, none⟩ = some (.slice aa av.length ac) := c8 2
        have kf := HX4.out.free 2
        have hst : Strs (wr.alloc (.cells #[.string (ba x.m), .string (ba x.p), .string (ba x.h)] 39)) aa av := ((HW.out.eq mO_a).alloc1' (.cells #[.string (ba x.m), .string (ba x.p), .string (ba x.h)] 39)).strs
        have hcon := contains_any aa ac av x.m _ hst (by omega)
        have HA := Lib.hid ((HW.out.eq mO_a).alloc1' (.cells #[.string (ba x.m), .string (ba x.p), .string (ba x.h)] 39))
        clear c8 hst hS4
        by_cases hin : x.m ∈ av
        · rw [decide_eq_true hin] at hcon
          have HIN := Lib.hid hin
          clear hin
          go_wp2_with (go_at_call 35; refine hcon.mono ?_; rintro e w' ⟨rfl, rfl⟩)
          go_roundg (R.length + 1 - (k + 1))
          case measure => omega
          case rel =>
            have e9 : addAll acc (R.take (k + 1)) = av := by rw [HSN.out]; simp [addM, HIN.out]
            refine ⟨k + 1, aa, ac, rfl, by omega, by go_num, ?_, fun j hj hjk => ?_⟩
            · rw [e9]; exact ((HW.out.alloc (.cells #[.string (ba x.m), .string (ba x.p), .string (ba x.h)] 39)).drop)
            · by_cases e : j = k
              · subst e; rw [← HX.out]; exact HE.out
              · exact HNO.out j hj (by omega)
        · rw [decide_eq_false hin] at hcon
          have HIN := Lib.hid hin
          clear hin
          go_wp2_with fail
          refine hcon.mono ?_
          rintro e w' ⟨rfl, rfl⟩
          have hal3 : av.length ≤ 100000 := by omega
          clear hcon c4 c4' l4 d0 d1 d2 HX4
          generalize wr.alloc (.cells #[.string (ba x.m), .string (ba x.p), .string (ba x.h)] 39) = w4 at *
          generalize wr.heap.size = eb at *
          have HB := Lib.hid (HA.out.alloc1' (.cells #[.string (ba x.m)] 9))
          go_wp2_with (at_builtin; refine wpList_append_slo rfl _ _ 37 rfl i0 (.string ByteArray.empty) 16 Tryd.underlying37 hi hz0 hz1 hz2 rfl (by decide) HB.out rfl ⟨w4.heap.size, 0, none⟩ 1 1 [.string (ba x.m)] rfl rfl (cells_one w4 _ _) (one_cell _) (by omega) (by unfold maxLen; omega) ?_; intro aa6 ac6 w6 hw6; have hz := hw6.eq (SP.rot4 _ _ _ _ _); have m8 := hz.cell 2; have mf := hz.free 2; have HX6 := Lib.hid hz; simp at m8; clear hw6 hz)
          go_roundg (R.length + 1 - (k + 1))
          case measure => omega
          case rel =>
            have e9 : addAll acc (R.take (k + 1)) = av ++ [x.m] := by rw [HSN.out]; simp [addM, HIN.out]
            have h6 := HX6.out.setCell (i := 2) (.slice aa6 (av.length + 1) ac6)
            refine ⟨k + 1, aa6, ac6, rfl, by omega, by go_num, ?_, fun j hj hjk => ?_⟩
            · rw [e9]
              unfold mO
              rw [List.length_append]
              have e10 : strs av ++ [.string (ba x.m)] = strs (av ++ [x.m]) := by simp [strs]
              rw [e10] at h6
              exact h6.drop2
            · by_cases e : j = k
              · subst e; rw [← HX.out]; exact HE.out
              · exact HNO.out j hj (by omega)
    · obtain rfl : k = R.length := by omega
      go_wp2_with fail
      go_ret
      have hno := find_no (fun j hj => HNO.out j hj hj)
      have hw := HW.out
      rw [List.take_length] at hw
      refine ⟨by rw [hno]; rfl, ?_⟩
      unfold stateOf
      rw [hno]
      exact mO_open.2 ⟨aa, ac, hw⟩
end Go.Proofs.YtlmoifeinglaeaaDoor
