/- Trees of routes (layer 8): find. -/
import Derived.Test.YtlmoifeinglaeaaDoorFindB
namespace Go.Proofs.YtlmoifeinglaeaaDoor
open Go.RowKit
set_option linter.unusedVariables false

theorem YieldPost.ret {F : SP} {w0 : World} {p4 p5 p8 : Nat} {m : List UInt8} {ao : Option Addr} {cap : Nat} {l acc : List (List UInt8)} {R : List Rt} {e : Ending} {w' : World} (h : YieldPost F w0 p4 p5 p8 m ao cap l acc R e w') {v : Bool} (hv : (R.find? fun r => decide (r.m = m)).isNone = v) :
    Ret w0 v (boxes F p4 p5 m ao l.length cap (stateOf p8 m l acc R)) e w' := by
  obtain ⟨h1, h2⟩ := h
  exact ⟨by rw [h1, hv], h2⟩

theorem find_cons (c : FindCtx) (hc : c.Ok) (x : List UInt8) (hxl : x.length ≤ 1000000) (l : List (List UInt8)) (ih : FindOk c l) : FindOk c (x :: l) := by
  intro t v lo lcap acc w hR hF hX hL hle hmax hS hn hfit
  have hrep := hR
  cases hR with
  | nil => exact find_none c (x :: l) lo lcap acc w hS
  | @node b eo ro vn vp vr ecap rcap le es nx pm rs en hb hA he hce hcA hcap hM hM2 hx hl hn' hp hr hen henA hrc hrn hrM =>
    obtain ⟨g, off, rfl, hlo⟩ := hL.get (k := 0) (by simp)
    rw [Nat.add_zero, List.getElem_cons_zero] at hlo
    have hb2 : c.w0.cell? ⟨b, 2, none⟩ = some (.pointer vp) := by simp [World.cell?, hb]
    have hb3 : c.w0.cell? ⟨b, 3, none⟩ = some (.pointer vr) := by simp [World.cell?, hb]
    have hl1 := hL.drop (k := 1) (by simp) (by simpa using hle)
    rw [List.drop_one, List.tail_cons] at hl1
    rw [List.length_cons] at hle ⊢
    -- the three parts
    obtain ⟨R3, hR3, hrest⟩ : ∃ R3 : List Rt, R3 = rs.en ∧ ((vr = none ∧ R3 = []) ∨ ∃ rb ro3 rc3, vr = some ⟨rb, 0, none⟩ ∧ c.w0.cell? ⟨rb, 4, none⟩ = some (.slice ro3 R3.length rc3) ∧ Rts c.w0 ro3 R3) := by
      refine ⟨rs.en, rfl, ?_⟩
      cases hr with
      | nil => exact .inl ⟨rfl, rfl⟩
      | @node b' eo' ro' vn' vp' vr' ecap' rcap' l' es' nx' pm' rs' en' hb' hA' he' hc' hcA' hcap' hM' hM2' hx' hl' hn'' hp' hr' hen' henA' hrc' hrn' hrM' =>
        exact .inr ⟨b', ro', rcap', rfl, by simp [World.cell?, hb', Nd.en], hen'.rts⟩
    have hyield : ∀ acc' wq, acc'.length + R3.length ≤ 100000 → (∀ r ∈ R3, Fits c.l0 r) → ∀ ro3 rc3, Rts c.w0 ro3 R3 → St c.w0 (boxes c.F c.p4 c.p5 c.m c.ao c.l0.length c.cap (mOpen c.p8 acc')) wq →
        Calls Tryd.prog 33 #[.slice ro3 R3.length rc3, .pointer (some ⟨c.p4, 0, none⟩), .pointer (some ⟨c.p5, 0, none⟩), .pointer (some ⟨c.p8, 0, none⟩)] wq (Ret c.w0 (R3.find? fun r => decide (r.m = c.m)).isNone (boxes c.F c.p4 c.p5 c.m c.ao c.l0.length c.cap (stateOf c.p8 c.m c.l0 acc' R3))) :=
      fun acc' wq h1 h2 ro3 rc3 h3 h4 => (yield_any c.F c.w0 c.p4 c.p5 c.p8 c.m c.ao c.cap c.l0 acc' R3 ro3 rc3 wq h4 hc.hl hc.hcap hc.ht h3 h1 h2).mono fun e w' k => k.ret rfl
    by_cases hxe : x = []
    · -- an empty segment: only what stands for all that follow
      have hv : (visT (x :: l) (.node es nx pm rs en)).flatten = R3 := by
        rw [hR3]
        cases rs <;> simp [visT, hxe, Nd.en]
      rw [hv] at hn hfit ⊢
      have goal : Calls Tryd.prog 32 #[.pointer (some ⟨b, 0, none⟩), .slice (some ⟨g, off, none⟩) (l.length + 1) lcap, fnM c.p4 c.p5 c.p8] w (Ret c.w0 (R3.find? fun r => decide (r.m = c.m)).isNone (boxes c.F c.p4 c.p5 c.m c.ao c.l0.length c.cap (stateOf c.p8 c.m c.l0 acc R3))) := by
        by_cases h1 : lcap = 1
        · have hln : l.length = 0 := by omega
          rw [h1, hln]
          rcases hrest with ⟨rfl, hr0⟩ | ⟨rb, ro3, rc3, rfl, h4, h5⟩
          · rw [hr0]
            exact find_void0_one hxe hS hlo hb3
          · exact find_void1_one hxe hS hlo hb3 h4 (fun wq hq => hyield acc wq hn hfit _ _ h5 hq)
        · have hm1 : lcap ≤ maxLen := hmax
          unfold maxLen at hm1
          rcases hrest with ⟨rfl, hr0⟩ | ⟨rb, ro3, rc3, rfl, h4, h5⟩
          · rw [hr0]
            exact find_void0 hxe hS hlo hle (by omega) h1 hb3
          · exact find_void1 hxe hS hlo hle (by omega) h1 hb3 h4 (fun wq hq => hyield acc wq hn hfit _ _ h5 hq)
      exact goal.mono fun e w' k => ⟨k.1, k.2⟩
    · -- the word, then any one, then all that follow
      obtain ⟨T, hT⟩ : ∃ T, T = stepT x.length (.node es nx pm rs en) x := ⟨_, rfl⟩
      obtain ⟨R1, hR1⟩ : ∃ R1, R1 = (visT l T).flatten := ⟨_, rfl⟩
      obtain ⟨R2, hR2⟩ : ∃ R2, R2 = (visT l pm).flatten := ⟨_, rfl⟩
      have hv : (visT (x :: l) (.node es nx pm rs en)).flatten = R1 ++ (R2 ++ R3) := by
        rw [hR1, hR2, hR3, hT]
        cases rs <;> simp [visT, hxe, Nd.en]
      rw [hv] at hn hfit ⊢
      simp only [List.length_append] at hn
      have hne : Nd.node es nx pm rs en ≠ Nd.nil := by intro h; cases h
      have hTF : Ful T := by rw [hT]; exact hF.step _ _
      have hTX : Rdx T := by
        rw [hT]
        have : ∀ (k : Nat) (t : Nd) (y : List UInt8), Rdx t → Rdx (stepT k t y) := by
          intro k
          induction k with
          | zero => intro t y h; exact h.nx
          | succ k ihk =>
            intro t y h
            unfold stepT
            split
            · exact h.nx
            · split
              · exact .nil
              · rename_i e he
                exact ihk _ _ (h.edge _ (List.mem_of_find?_eq_some he))
        exact this _ _ _ hX
      have hstep := step_any c.w0 c.M hc.hM c.A x.length x (Nat.le_refl _) (adr b) (.node es nx pm rs en) w.drew _ hrep hne hF hX hS.drew
      rw [← hT] at hstep
      have hm1 : lcap ≤ maxLen := hmax
      unfold maxLen at hm1
      have hlc : l.length ≤ lcap - 1 := by omega
      have hf1 : ∀ v5 wq, Rep c.w0 c.M c.A v5 T → St c.w0 (boxes c.F c.p4 c.p5 c.m c.ao c.l0.length c.cap (mOpen c.p8 acc)) wq →
          Calls Tryd.prog 32 #[.pointer v5, .slice (cutAt (some ⟨g, off, none⟩) lcap 1 1) l.length (lcap - 1), fnM c.p4 c.p5 c.p8] wq (Ret c.w0 (R1.find? fun r => decide (r.m = c.m)).isNone (boxes c.F c.p4 c.p5 c.m c.ao c.l0.length c.cap (stateOf c.p8 c.m c.l0 acc R1))) := by
        intro v5 wq h1 h2
        have := ih T v5 _ (lcap - 1) acc wq h1 hTF hTX hl1 hlc (by omega) h2 (by rw [← hR1]; omega) (fun r hr => hfit r (by rw [← hR1] at hr; simp [hr]))
        rw [← hR1] at this
        exact this.mono fun e w' k => k.ret rfl
      have hf2 : ∀ acc', acc'.length + R2.length ≤ 100000 → ∀ wq, St c.w0 (boxes c.F c.p4 c.p5 c.m c.ao c.l0.length c.cap (mOpen c.p8 acc')) wq →
          Calls Tryd.prog 32 #[.pointer vp, .slice (cutAt (some ⟨g, off, none⟩) lcap 1 1) l.length (lcap - 1), fnM c.p4 c.p5 c.p8] wq (Ret c.w0 (R2.find? fun r => decide (r.m = c.m)).isNone (boxes c.F c.p4 c.p5 c.m c.ao c.l0.length c.cap (stateOf c.p8 c.m c.l0 acc' R2))) := by
        intro acc' ha wq h2
        have := ih pm vp _ (lcap - 1) acc' wq hp hF.pm hX.pm hl1 hlc (by omega) h2 (by rw [← hR2]; omega) (fun r hr => hfit r (by rw [← hR2] at hr; simp [hr]))
        rw [← hR2] at this
        exact this.mono fun e w' k => k.ret rfl
      have hal1 := addAll_len acc R1
      have hal2 := addAll_len (addAll acc R1) R2
      have hcut1 : lcap = 1 → cutAt (some ⟨g, off, none⟩) lcap 1 1 = some (⟨g, off, none⟩ : Addr) := fun h => by simp [cutAt, h]
      have hcut2 : ¬ lcap = 1 → cutAt (some ⟨g, off, none⟩) lcap 1 1 = some (⟨g, off + 1, none⟩ : Addr) := fun h => by simp [cutAt, h, add_none]
      suffices goal : Calls Tryd.prog 32 #[.pointer (some ⟨b, 0, none⟩), .slice (some ⟨g, off, none⟩) (l.length + 1) lcap, fnM c.p4 c.p5 c.p8] w (Ret c.w0 ((R1 ++ (R2 ++ R3)).find? fun r => decide (r.m = c.m)).isNone (boxes c.F c.p4 c.p5 c.m c.ao c.l0.length c.cap (stateOf c.p8 c.m c.l0 acc (R1 ++ (R2 ++ R3))))) from goal.mono fun e w' k => ⟨k.1, k.2⟩
      cases q1 : R1.find? fun r => decide (r.m = c.m) with
      | some r1 =>
        rw [stateOf_app_some q1, List.find?_append, q1]
        rw [q1] at hf1
        by_cases h1 : lcap = 1
        · have hln : l.length = 0 := by omega
          rw [hcut1 h1, hln] at hf1
          rw [h1] at hf1 ⊢
          rw [hln]
          exact find_hit1_one hxe hS hlo hstep hf1
        · rw [hcut2 h1] at hf1
          exact find_hit1 hxe hS hlo hle (by omega) h1 hstep hf1
      | none =>
        rw [stateOf_app_none q1, List.find?_append, q1, Option.none_or]
        rw [q1, stateOf_none q1] at hf1
        have hf2 := hf2 (addAll acc R1) (by omega)
        cases q2 : R2.find? fun r => decide (r.m = c.m) with
        | some r2 =>
          rw [stateOf_app_some q2, List.find?_append, q2]
          rw [q2] at hf2
          by_cases h1 : lcap = 1
          · have hln : l.length = 0 := by omega
            rw [hcut1 h1, hln] at hf1 hf2
            rw [h1] at hf1 hf2 ⊢
            rw [hln]
            exact find_hit2_one hxe hS hlo hb2 hstep hf1 hf2
          · rw [hcut2 h1] at hf1 hf2
            exact find_hit2 hxe hS hlo hle (by omega) h1 hb2 hstep hf1 hf2
        | none =>
          rw [stateOf_app_none q2, List.find?_append, q2, Option.none_or]
          rw [q2, stateOf_none q2] at hf2
          have hf3 : ∀ r ∈ R3, Fits c.l0 r := fun r hr => hfit r (by simp [hr])
          by_cases h1 : lcap = 1
          · have hln : l.length = 0 := by omega
            rw [hcut1 h1, hln] at hf1 hf2
            rw [h1] at hf1 hf2 ⊢
            rw [hln]
            rcases hrest with ⟨rfl, hr0⟩ | ⟨rb, ro3, rc3, rfl, h4, h5⟩
            · rw [hr0]
              exact find_rest0_one hxe hS hlo hb2 hb3 hstep hf1 hf2
            · exact find_rest1_one hxe hS hlo hb2 hb3 h4 hstep hf1 hf2 (fun wq hq => hyield _ wq (by omega) hf3 _ _ h5 hq)
          · rw [hcut2 h1] at hf1 hf2
            rcases hrest with ⟨rfl, hr0⟩ | ⟨rb, ro3, rc3, rfl, h4, h5⟩
            · rw [hr0]
              exact find_rest0 hxe hS hlo hle (by omega) h1 hb2 hb3 hstep hf1 hf2
            · exact find_rest1 hxe hS hlo hle (by omega) h1 hb2 hb3 h4 hstep hf1 hf2 (fun wq hq => hyield _ wq (by omega) hf3 _ _ h5 hq)

theorem find_any (c : FindCtx) (hc : c.Ok) : ∀ (l : List (List UInt8)), (∀ x ∈ l, x.length ≤ 1000000) → FindOk c l
  | [], _ => find_end c hc
  | x :: l, h => find_cons c hc x (h x List.mem_cons_self) l (find_any c hc l fun y hy => h y (List.mem_cons_of_mem _ hy))
end Go.Proofs.YtlmoifeinglaeaaDoor
