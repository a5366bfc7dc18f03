/- Trees of routes (layer 8): common. -/
import Derived.Test.YtlmoifeinglaeaaDoorCheck
import Derived.BigQuiet
namespace Go.Proofs.YtlmoifeinglaeaaDoor
open Go.RowKit

/-- How many first bytes two texts have in common. -/
def comm : List UInt8 → List UInt8 → Nat
  | a :: x, b :: y => if a = b then comm x y + 1 else 0
  | _, _ => 0

theorem comm_le (a b : List UInt8) : comm a b ≤ a.length ∧ comm a b ≤ b.length := by
  induction a generalizing b with
  | nil => simp [comm]
  | cons x a ih =>
    cases b with
    | nil => simp [comm]
    | cons y b =>
      unfold comm
      split
      · have := ih b; simp; omega
      · simp

theorem comm_take (a b : List UInt8) : a.take (comm a b) = b.take (comm a b) := by
  induction a generalizing b with
  | nil => simp [comm]
  | cons x a ih =>
    cases b with
    | nil => simp [comm]
    | cons y b =>
      unfold comm
      split
      · rename_i h; simp [h, ih b]
      · simp

theorem comm_iff (a b : List UInt8) : comm a b = a.length ↔ a.isPrefixOf b = true := by
  induction a generalizing b with
  | nil => cases b <;> simp [comm]
  | cons x a ih =>
    cases b with
    | nil => simp [comm]
    | cons y b =>
      unfold comm
      by_cases h : x = y
      · subst h; simpa using ih b
      · simp [h]

/-- The first k bytes are the same. -/
theorem comm_ge {a b : List UInt8} {k : Nat} (ha : k ≤ a.length) (hb : k ≤ b.length) (h : a.take k = b.take k) : k ≤ comm a b := by
  induction k generalizing a b with
  | zero => omega
  | succ k ih =>
    cases a with
    | nil => simp at ha
    | cons x a =>
      cases b with
      | nil => simp at hb
      | cons y b =>
        simp at h
        obtain ⟨rfl, h⟩ := h
        have := ih (by simpa using ha) (by simpa using hb) h
        unfold comm
        simp; omega

theorem comm_stop {a b : List UInt8} {k : Nat} (hle : k ≤ comm a b) (h : k = a.length ∨ k = b.length ∨ a[k]? ≠ b[k]?) : comm a b = k := by
  have hc := comm_le a b
  rcases Nat.lt_or_ge k (comm a b) with hlt | hge
  · rcases h with h | h | h
    · omega
    · omega
    · exfalso
      apply h
      have := congrArg (fun l => l[k]?) (comm_take a b)
      simpa [List.getElem?_take, hlt] using this
  · omega

set_option maxRecDepth 100000 in
set_option maxHeartbeats 4000000 in
theorem common_any (a b : List UInt8) (w : World) (ha : a.length ≤ 1000000) :
    Calls Tryd.prog 56 #[.string (ba a), .string (ba b)] w fun e w' => e = .returned (.int .i64 (comm a b : Nat)) ∧ ∃ n, w' = w.drewN n := by
  have hsa := size_ba a
  have hsb := size_ba b
  go_enter Tryd.func56, Tryd.ntmps56
  go_wp2_with fail
  go_loopg [5] (a.length + 1) (fun gh i wr => ∃ (k : Nat), gh = a.length + 1 - k ∧ k ≤ comm a b ∧ i = .int .i64 k ∧ ∃ n, wr = w.drewN n)
  case atStart => exact ⟨0, rfl, Nat.zero_le _, rfl, 0, rfl⟩
  case round =>
    obtain ⟨k, rfl, hk, rfl, n0, rfl⟩ := hrel
    have hc := comm_le a b
    by_cases hka : k < a.length
    · by_cases hkb : k < b.length
      · have ga : (ba a)[k]'(by omega) = a[k] := by
          have := bl_get (ba a) k (by omega)
          rw [bl_ba, List.getElem?_eq_getElem hka] at this
          exact (Option.some.inj this).symm
        have gb : (ba b)[k]'(by omega) = b[k] := by
          have := bl_get (ba b) k (by omega)
          rw [bl_ba, List.getElem?_eq_getElem hkb] at this
          exact (Option.some.inj this).symm
        by_cases he : a[k] = b[k]
        · have hk1 : k + 1 ≤ comm a b := comm_ge (by omega) (by omega) (by
            rw [take_snoc' a k a[k] (by simp), take_snoc' b k b[k] (by simp), he]
            congr 1
            have := congrArg (List.take k) (comm_take a b)
            simpa [List.take_take, Nat.min_eq_left hk] using this)
          have hA : decide ((k : Int) < ((ba a).size : Int)) = true := by simp; omega
          have hB : decide ((k : Int) < ((ba b).size : Int)) = true := by simp; omega
          have hE : ((a[k].toNat : Int) == (b[k].toNat : Int)) = true := by rw [he]; simp
          clear he
          go_wp2_with fail
          go_quiet (fail)
          go_wp2_with fail
          go_roundg (a.length + 1 - (k + 1))
          case measure => omega
          case rel => exact ⟨k + 1, rfl, hk1, by go_num, _, rfl⟩
        · have hfin : comm a b = k := comm_stop hk (.inr (.inr (by simp [hka, hkb, he])))
          have hA : decide ((k : Int) < ((ba a).size : Int)) = true := by simp; omega
          have hB : decide ((k : Int) < ((ba b).size : Int)) = true := by simp; omega
          have hE : ((a[k].toNat : Int) == (b[k].toNat : Int)) = false := by
            rw [beq_eq_false_iff_ne]
            intro e
            exact he (UInt8.toNat_inj.1 (by omega))
          have HF := Lib.hid hfin
          clear he hfin
          go_wp2_with fail
          go_quiet (fail)
          go_wp2_with fail
          go_ret
          exact ⟨by rw [HF.out]; rfl, _, World.drewN_drewN ..⟩
      · have hfin : comm a b = k := comm_stop hk (.inr (.inl (by omega)))
        have hA : decide ((k : Int) < ((ba a).size : Int)) = true := by simp; omega
        have hB : decide ((k : Int) < ((ba b).size : Int)) = false := by simp; omega
        have HF := Lib.hid hfin
        clear hfin
        go_wp2_with fail
        go_quiet (fail)
        go_wp2_with fail
        go_ret
        exact ⟨by rw [HF.out]; rfl, _, World.drewN_drewN ..⟩
    · have hfin : comm a b = k := comm_stop hk (.inl (by omega))
      have hA : decide ((k : Int) < ((ba a).size : Int)) = false := by simp; omega
      have HF := Lib.hid hfin
      clear hfin
      go_wp2_with fail
      go_quiet (fail)
      go_wp2_with fail
      go_ret
      exact ⟨by rw [HF.out]; rfl, _, World.drewN_drewN ..⟩
end Go.Proofs.YtlmoifeinglaeaaDoor
