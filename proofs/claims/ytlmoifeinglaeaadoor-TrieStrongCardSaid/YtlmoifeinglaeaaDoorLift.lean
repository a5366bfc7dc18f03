/- The package's variable that the rows lay (table.Handlers), read off the premise; the world of a witness. -/
import Derived.Test.YtlmoifeinglaeaaDoorRows
import Derived.Test.YtlmoifeinglaeaaDoorTable
import Derived.ChangeSame
import Derived.ChangeVars
import Derived.JoinedOf
import Derived.RowKit
import Derived.ProofKit
import Derived.OpenShut
import Derived.WalkKit
namespace Go.Proofs.YtlmoifeinglaeaaDoor
open Go.ChangeShapes Go.WideShapes Go.ChangeAt Go.RowKit

theorem Tryd.own : ownKnob Tryd.prog.godebug = none := by kernel_rfl
theorem Tryd.tab : Tryd.prog.globalNamed "crossroad/table.Handlers" = some 0 := by kernel_rfl
theorem Tryd.tabType : (Tryd.prog.globals[0]?).map (·.type) = some 88 := by kernel_rfl
theorem Tryd.cellsTab : Tryd.prog.cellsOf 88 = 8 := by kernel_rfl
theorem Tryd.cellsStr : Tryd.prog.cellsOf 9 = 1 := by kernel_rfl

theorem str_of (s : ByteArray) (l : List UInt8) (h : s.data.toList = l) : s = ba l := by
  apply bl_inj
  rw [bl_ba]
  exact h

set_option maxRecDepth 100000 in
theorem cells_of_laid {W : World} (h : laidMet Tryd.prog [("crossroad/table.Handlers", Rows.laid_crossroad_table_Handlers)] W) : W.var? Tryd.prog "crossroad/table.Handlers" = some handlersA := by
  obtain ⟨ps, ⟨g, t, cs, fuel, p, q, hg, ht, hvar, hd, _, _⟩, _⟩ := h
  obtain rfl := Option.some.inj (Tryd.tab.symm.trans hg)
  obtain rfl := Option.some.inj (Tryd.tabType.symm.trans ht)
  rw [hvar]
  congr 1
  obtain ⟨l⟩ := cs
  cases fuel with
  | zero => simp [DataW.trod] at hd
  | succ fuel =>
    simp only [DataW.trod, Tryd.underlying88, Tryd.cellsTab, Tryd.cellsStr] at hd
    split at hd
    · rename_i hl
      obtain ⟨c0, c1, c2, c3, c4, c5, c6, c7, rfl⟩ : ∃ c0 c1 c2 c3 c4 c5 c6 c7, l = [c0, c1, c2, c3, c4, c5, c6, c7] := by
        match l, hl with
        | [a, b, c, d, e, f, g, h], _ => exact ⟨a, b, c, d, e, f, g, h, rfl⟩
      have e : List.range 8 = [0, 1, 2, 3, 4, 5, 6, 7] := rfl
      rw [e] at hd
      simp only [Option.map_eq_some_iff, List.mapM_cons, List.mapM_nil, Option.bind_eq_bind, Option.bind_eq_some_iff, Option.pure_def, Option.some.injEq] at hd
      obtain ⟨xs, ⟨y0, h0, _, ⟨y1, h1, _, ⟨y2, h2, _, ⟨y3, h3, _, ⟨y4, h4, _, ⟨y5, h5, _, ⟨y6, h6, _, ⟨y7, h7, _, rfl, rfl⟩, rfl⟩, rfl⟩, rfl⟩, rfl⟩, rfl⟩, rfl⟩, rfl⟩, hx⟩ := hd
      obtain ⟨s0, e0, rfl, _⟩ := DataW.trod_string Tryd.underlying9 h0
      obtain ⟨s1, e1, rfl, _⟩ := DataW.trod_string Tryd.underlying9 h1
      obtain ⟨s2, e2, rfl, _⟩ := DataW.trod_string Tryd.underlying9 h2
      obtain ⟨s3, e3, rfl, _⟩ := DataW.trod_string Tryd.underlying9 h3
      obtain ⟨s4, e4, rfl, _⟩ := DataW.trod_string Tryd.underlying9 h4
      obtain ⟨s5, e5, rfl, _⟩ := DataW.trod_string Tryd.underlying9 h5
      obtain ⟨s6, e6, rfl, _⟩ := DataW.trod_string Tryd.underlying9 h6
      obtain ⟨s7, e7, rfl, _⟩ := DataW.trod_string Tryd.underlying9 h7
      simp at e0 e1 e2 e3 e4 e5 e6 e7
      subst e0 e1 e2 e3 e4 e5 e6 e7
      simp [Rows.laid_crossroad_table_Handlers] at hx
      obtain ⟨⟨g0, g1, g2, g3, g4, g5, g6, g7⟩, _⟩ := hx
      rw [str_of s0 _ g0, str_of s1 _ g1, str_of s2 _ g2, str_of s3 _ g3, str_of s4 _ g4, str_of s5 _ g5, str_of s6 _ g6, str_of s7 _ g7]
      rfl
    · cases hd

theorem hg_of_laid {W : World} (h : laidMet Tryd.prog [("crossroad/table.Handlers", Rows.laid_crossroad_table_Handlers)] W) : HG W := by
  have hv := cells_of_laid h
  unfold World.var? at hv
  rw [Tryd.tab] at hv
  simp only [Option.bind_some] at hv
  unfold HG
  cases e : W.heap[0]? with
  | none => rw [e] at hv; cases hv
  | some o =>
    rw [e] at hv
    cases o with
    | cells cs t fr => simp at hv; subst hv; exact ⟨t, fr, rfl⟩
    | _ => simp at hv

/-- A world that fits. -/
noncomputable def laidWorld (os : Os) : World :=
  { World.holding Tryd.prog os ⟨#[], #[], []⟩ with heap := (World.holding Tryd.prog os ⟨#[], #[], []⟩).heap.modify 0 fun
      | .cells _ t frozen => .cells handlersA t frozen
      | o => o }
set_option maxRecDepth 100000 in
theorem laidWorld_row (os : Os) (args : Array Value) : ((laidWorld os).forCall (fun _ _ => 0) ⟨#[], args, []⟩).memory.heap[0]? = some (.cells handlersA 88 (0, 0)) := by kernel_rfl
set_option maxRecDepth 100000 in
theorem reads_tab {H : Type} (enc : TypeId × Value → H) (W : World) (sp : Nat → Bool) : DataW.trod enc Tryd.prog W 0 sp true 3 88 handlersA.toList = some (Rows.laid_crossroad_table_Handlers, []) := by kernel_rfl

set_option maxRecDepth 100000 in
theorem laid_met (os : Os) (args : Array Value) : laidMet Tryd.prog [("crossroad/table.Handlers", Rows.laid_crossroad_table_Handlers)] ((laidWorld os).forCall (fun _ _ => 0) ⟨#[], args, []⟩).memory :=
  ⟨_, ⟨0, 88, handlersA, 8, [], [], by kernel_rfl, by kernel_rfl, by kernel_rfl, by kernel_rfl, rfl, rfl⟩, by decide, fun b off h => by
    have h' : MemPlace.cell b off ∈ [MemPlace.cell 0 0, .cell 0 1, .cell 0 2, .cell 0 3, .cell 0 4, .cell 0 5, .cell 0 6, .cell 0 7] := h
    have hb : b = 0 := by
      simp at h'
      omega
    subst hb
    refine ⟨⟨_, _, laidWorld_row os args⟩, fun u v hc => ?_⟩
    simp only [World.cell?, laidWorld_row os args] at hc
    simp at h'
    rcases h' with rfl | rfl | rfl | rfl | rfl | rfl | rfl | rfl <;> simp [handlersA] at hc⟩
end Go.Proofs.YtlmoifeinglaeaaDoor
