/- Trees of routes (layer 8): word. -/
import Derived.Test.YtlmoifeinglaeaaDoorTrieF
namespace Go.Proofs.YtlmoifeinglaeaaDoor
open Go.RowKit

theorem word_any (M : Nat) (hMM : M + 1 ≤ 1000000) (hM1 : 1 ≤ M) (p4 p5 : Option Addr) (F : Nd → Nd) (W : World) (hF : ThenOk M p4 p5 F W) (k : Nat) (hk : k ≤ 1000000) :
    ∀ (s : List UInt8), s.length ≤ k → ∀ (A : Nat → Prop) (w : World) (P : SP), St W P w → ∀ v t, Rep w M A v t → Calls Tryd.prog 47 #[.pointer v, .string (ba s), fnV p4 p5] w (Made w (M + 1) A (wordT F k t s)) := by
  induction k with
  | zero =>
    intro s hs A w P hW v t h
    obtain rfl : s = [] := List.eq_nil_of_length_eq_zero (by omega)
    exact word_end M hMM p4 p5 F W hF A w P hW v t h
  | succ k ih =>
    intro s hs A w P hW v t h
    by_cases e : s = []
    · subst e
      have : wordT F (k + 1) t [] = t.next F := by simp [wordT]
      rw [this]
      exact word_end M hMM p4 p5 F W hF A w P hW v t h
    · exact word_go M hMM hM1 p4 p5 F W hF k (ih (by omega)) s e hs (by omega) A w P hW v t h
end Go.Proofs.YtlmoifeinglaeaaDoor
