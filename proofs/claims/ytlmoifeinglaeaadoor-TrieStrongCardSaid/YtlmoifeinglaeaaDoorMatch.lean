/- Trees of routes (layer 8): Match. -/
import Derived.Test.YtlmoifeinglaeaaDoorFindC
import Derived.Test.YtlmoifeinglaeaaDoorSort
import Derived.Test.YtlmoifeinglaeaaDoorTrieW
namespace Go.Proofs.YtlmoifeinglaeaaDoor
open Go.RowKit
attribute [local go_sem ↓] Go.wp_at_zero Go.wp_at_succ
set_option linter.unusedVariables false

/-- What is found: the handler, its parameters, or none and the methods that are allowed. -/
structure Mt where
  h : List UInt8
  ps : List (List UInt8 × List UInt8)
  al : List (List UInt8)
  ok : Bool
deriving DecidableEq

/-- What Match finds in a list of routes. -/
def matchL (L : List Rt) (m : List UInt8) (l : List (List UInt8)) : Mt :=
  match (hitsL segR L l).find? fun r => decide (r.m = m) with
  | some r => ⟨r.h, prmL l (segR r), [], true⟩
  | none => ⟨[], [], sortL (addAll [] (hitsL segR L l)), false⟩

/-- A match as a value: its lists can be read. -/
def MatchPost (w : World) (x : Mt) (e : Ending) (w' : World) : Prop :=
  ∃ pa pc aa ac P, e = .returned (.tuple #[.agg #[.string (ba x.h), .slice pa x.ps.length pc, .slice aa x.al.length ac], .bool x.ok]) ∧ St w P w' ∧
    Cells w' 2 pa x.ps.length (prmC x.ps) ∧ Strs w' aa x.al ∧ (pa = none → pc = 0) ∧ (aa = none → ac = 0)

theorem hits_nil (l : List (List UInt8)) : hitsL segR [] l = [] := by simp [hitsL]
theorem match_nil (m : List UInt8) (l : List (List UInt8)) : matchL [] m l = ⟨[], [], [], false⟩ := by
  unfold matchL
  rw [hits_nil]
  simp [addAll, sortL]

/-- A tree's root is none just where there are no routes. -/
theorem build_ne {L : List Rt} (h : L ≠ []) : buildT segR L ≠ .nil := by
  obtain ⟨L0, r, rfl⟩ : ∃ L0 r, L = L0 ++ [r] := ⟨L.dropLast, L.getLast h, (List.dropLast_concat_getLast h).symm⟩
  rw [build_snoc]
  cases segR r with
  | nil => simp [putT]
  | cons x l =>
    unfold putT
    split
    · exact wordT_ne _ _ _ _
    · split <;> simp

theorem cnt_filter {α β : Type} [DecidableEq β] (f : α → β) (L : List α) (Q : List β) : ((Q.map fun q => L.filter fun r => decide (f r = q)).flatten).length = (L.map fun r => Q.count (f r)).sum := by
  induction Q with
  | nil =>
    induction L with
    | nil => rfl
    | cons r L ih => simp at ih ⊢; exact ih
  | cons q Q ih =>
    rw [List.map_cons, List.flatten_cons, List.length_append, ih]
    clear ih
    induction L with
    | nil => rfl
    | cons r L ih =>
      rw [List.filter_cons, List.map_cons, List.sum_cons, List.map_cons, List.sum_cons, List.count_cons, ← ih]
      by_cases h : f r = q
      · have h' : (q == f r) = true := by simp [h]
        simp [h]
        omega
      · have h' : ¬ q = f r := fun e => h e.symm
        simp [h, h']
        omega
theorem nodup_cands (l : List (List UInt8)) : (cands l).Nodup := (cands_sorted l).imp fun {a b} h => by rintro rfl; rw [strS_irr] at h; cases h
theorem hits_len (L : List Rt) (l : List (List UInt8)) : (hitsL segR L l).length ≤ L.length := by
  unfold hitsL
  rw [cnt_filter (fun r => norm (segR r)) L (cands l)]
  induction L with
  | nil => simp
  | cons r L ih =>
    have := (@List.nodup_iff_count (List Sg) instBEqOfDecidableEq inferInstance (cands l)).1 (nodup_cands l) (norm (segR r))
    rw [List.map_cons, List.sum_cons, List.length_cons]
    omega

set_option maxRecDepth 100000 in
set_option maxHeartbeats 4000000 in
theorem match_void (v : Option Addr) (m : List UInt8) (ao : Option Addr) (n cap : Nat) (w : World) (hv : v = none ∨ ∃ b, v = some ⟨b, 0, none⟩ ∧ w.cell? ⟨b, 0, none⟩ = some (.pointer none)) :
    Calls Tryd.prog 20 #[.pointer v, .string (ba m), .slice ao n cap] w (MatchPost w ⟨[], [], [], false⟩) := by
  have hS := ((((St.refl w).alloc (.cells #[.string (ba m)] 9)).alloc (.cells #[.slice ao n cap] 37)).alloc (.cells #[.string (ba []), .slice none 0 0, .slice none 0 0] 42)).alloc (.cells #[.string (ba []), .slice none 0 0, .slice none 0 0] 42)
  have HS := Lib.hid hS
  rcases hv with rfl | ⟨b, rfl, c0⟩
  · clear hS
    go_enter Tryd.func20, Tryd.ntmps20
    go_wp2_with fail
    exact bodyPost_ret (v := .tuple #[.agg #[.string (ba []), .slice none 0 0, .slice none 0 0], .bool false]) (by simp [results, Tryd.results20, go_sem]; rfl) rfl ⟨none, 0, none, 0, _, rfl, HS.out, ⟨rfl, .inl ⟨rfl, rfl⟩⟩, .inl rfl, fun _ => rfl, fun _ => rfl⟩
  · have c0' := (hS.below.cell (p := ⟨b, 0, none⟩) (World.block_lt_of_cell? w _ c0)).trans c0
    have hba : ba [] = ⟨#[]⟩ := rfl
    rw [hba] at c0'
    clear hS hba
    go_enter Tryd.func20, Tryd.ntmps20
    go_wp2_with fail
    exact bodyPost_ret (v := .tuple #[.agg #[.string (ba []), .slice none 0 0, .slice none 0 0], .bool false]) (by simp [results, Tryd.results20, go_sem]; rfl) rfl ⟨none, 0, none, 0, _, rfl, HS.out, ⟨rfl, .inl ⟨rfl, rfl⟩⟩, .inl rfl, fun _ => rfl, fun _ => rfl⟩

theorem St.box5 {F X : SP} {w0 w : World} {p4 p5 : Nat} {m : List UInt8} {ao : Option Addr} {n cap : Nat} (h : St w0 (boxes F p4 p5 m ao n cap X) w) : w.cell? ⟨p5, 0, none⟩ = some (.slice ao n cap) := by
  unfold boxes at h
  exact (h.eq (SP.mul_left_comm _ _ _)).cell 0
theorem SP.third (a b c d : SP) : a * (b * (c * d)) = c * (a * (b * d)) := by ac_rfl
theorem SP.last6 (s p b4 b5 f : SP) : s * (p * (b4 * (b5 * f))) = f * (s * (p * (b4 * b5))) := by ac_rfl
theorem SP.pull6 (a s b4 b5 f : SP) : (a * s) * (b4 * (b5 * f)) = f * (a * (s * (b4 * b5))) := by ac_rfl

set_option maxRecDepth 100000 in
set_option maxHeartbeats 8000000 in
theorem match_full (b rb : Nat) (R : List Rt) (m : List UInt8) (l : List (List UInt8)) (ao : Option Addr) (cap : Nat) (w : World)
    (hb : w.cell? ⟨b, 0, none⟩ = some (.pointer (some ⟨rb, 0, none⟩))) (hRn : R.length ≤ 100000)
    (hfind : ∀ wq, St w (boxes (SP.blk (w.heap.size + 1 + 1) (.cells #[.string (ba []), .slice none 0 0, .slice none 0 0] 42)) w.heap.size (w.heap.size + 1) m ao l.length cap (mOpen (w.heap.size + 1 + 1 + 1) [])) wq →
      Calls Tryd.prog 32 #[.pointer (some ⟨rb, 0, none⟩), .slice ao l.length cap, fnM w.heap.size (w.heap.size + 1) (w.heap.size + 1 + 1 + 1)] wq (YieldPost (SP.blk (w.heap.size + 1 + 1) (.cells #[.string (ba []), .slice none 0 0, .slice none 0 0] 42)) w w.heap.size (w.heap.size + 1) (w.heap.size + 1 + 1 + 1) m ao cap l [] R)) :
    Calls Tryd.prog 20 #[.pointer (some ⟨b, 0, none⟩), .string (ba m), .slice ao l.length cap] w (MatchPost w (match R.find? fun r => decide (r.m = m) with | some r => ⟨r.h, prmL l (segR r), [], true⟩ | none => ⟨[], [], sortL (addAll [] R), false⟩)) := by
  have hS := ((((St.refl w).alloc (.cells #[.string (ba m)] 9)).alloc (.cells #[.slice ao l.length cap] 37)).alloc (.cells #[.string (ba []), .slice none 0 0, .slice none 0 0] 42)).alloc (.cells #[.string (ba []), .slice none 0 0, .slice none 0 0] 42)
  have hz1 : (w.alloc (.cells #[.string (ba m)] 9)).heap.size = w.heap.size + 1 := by simp
  have hz2 : ((w.alloc (.cells #[.string (ba m)] 9)).alloc (.cells #[.slice ao l.length cap] 37)).heap.size = w.heap.size + 1 + 1 := by simp
  have hz3 : (((w.alloc (.cells #[.string (ba m)] 9)).alloc (.cells #[.slice ao l.length cap] 37)).alloc (.cells #[.string (ba []), .slice none 0 0, .slice none 0 0] 42)).heap.size = w.heap.size + 1 + 1 + 1 := by simp
  rw [hz1, hz2, hz3] at hS
  have hB : St w (boxes (SP.blk (w.heap.size + 1 + 1) (.cells #[.string (ba []), .slice none 0 0, .slice none 0 0] 42)) w.heap.size (w.heap.size + 1) m ao l.length cap (mOpen (w.heap.size + 1 + 1 + 1) [])) ((((w.alloc (.cells #[.string (ba m)] 9)).alloc (.cells #[.slice ao l.length cap] 37)).alloc (.cells #[.string ⟨#[]⟩, .slice none 0 0, .slice none 0 0] 42)).alloc (.cells #[.string ⟨#[]⟩, .slice none 0 0, .slice none 0 0] 42)) :=
    mO_open.2 ⟨none, 0, hS.eq (by unfold mO; rw [List.length_nil, show strs [] = [] from rfl, slo_nil, SP.one_mul, SP.mul_one]; ac_rfl)⟩
  have c0 : ((((w.alloc (.cells #[.string (ba m)] 9)).alloc (.cells #[.slice ao l.length cap] 37)).alloc (.cells #[.string ⟨#[]⟩, .slice none 0 0, .slice none 0 0] 42)).alloc (.cells #[.string ⟨#[]⟩, .slice none 0 0, .slice none 0 0] 42)).cell? ⟨b, 0, none⟩ = some (.pointer (some ⟨rb, 0, none⟩)) := (hS.below.cell (p := ⟨b, 0, none⟩) (World.block_lt_of_cell? w _ hb)).trans hb
  have hbl := World.block_lt_of_cell? w _ hb
  have c5 : ((((w.alloc (.cells #[.string (ba m)] 9)).alloc (.cells #[.slice ao l.length cap] 37)).alloc (.cells #[.string ⟨#[]⟩, .slice none 0 0, .slice none 0 0] 42)).alloc (.cells #[.string ⟨#[]⟩, .slice none 0 0, .slice none 0 0] 42)).cell? ⟨w.heap.size + 1, 0, none⟩ = some (.slice ao l.length cap) := by
    exact hB.box5
  have HB := Lib.hid hB
  have HF := Lib.hid hfind
  have HBB := Lib.hid hb
  clear hS hB hfind hz1 hz2 hz3 hb
  cases q : R.find? fun r => decide (r.m = m) with
  | some r =>
    simp only
    have Q := Lib.hid q
    clear q
    go_enter Tryd.func20, Tryd.ntmps20
    go_wp2_with fail
    unfold fnM at HF
    generalize ((((w.alloc (.cells #[.string (ba m)] 9)).alloc (.cells #[.slice ao l.length cap] 37)).alloc (.cells #[.string ⟨#[]⟩, .slice none 0 0, .slice none 0 0] 42)).alloc (.cells #[.string ⟨#[]⟩, .slice none 0 0, .slice none 0 0] 42)) = w4 at *
    generalize w.heap.size + 1 + 1 + 1 = p8 at *
    generalize w.heap.size + 1 + 1 = p6 at *
    generalize w.heap.size + 1 = p5 at *
    have h4 : w.heap.size = w.heap.size := rfl
    go_region_held3 (fun w' => w'.cell? ⟨b, 0, none⟩ = some (.pointer (some ⟨rb, 0, none⟩)) ∧ w'.cell? ⟨p5, 0, none⟩ = some (.slice ao l.length cap)) (first | exact ⟨c0, c5⟩ | exact ⟨f0, f5⟩ | go_keep) ((go_at_call 32; refine (HF.out _ HB.out.drew).mono ?_; rintro e w5 ⟨rfl, hS5⟩; have HS5 := Lib.hid hS5; have f0 := (hS5.below.cell (p := ⟨b, 0, none⟩) hbl).trans HBB.out; have f5 : w5.cell? ⟨p5, 0, none⟩ = some (.slice ao l.length cap) := hS5.box5; clear hS5))
    have h5 := HS5.out
    unfold stateOf at h5
    rw [Q.out] at h5
    obtain ⟨⟨pa, pc⟩, h6⟩ := boxes_ex.1 h5
    simp only at h6
    have k0 := (h6.eq (SP.mul_assoc _ _ _)).cell 0
    have k1 := (h6.eq (SP.mul_assoc _ _ _)).cell 1
    have k2 := (h6.eq (SP.mul_assoc _ _ _)).cell 2
    simp at k0 k1 k2
    have h7 := h6.eq (SP.pull6 _ _ _ _ _)
    have r0 := h7.cell 0
    have r1 := h7.cell 1
    have r2 := h7.cell 2
    have rf := fun i => h7.free i
    simp at r0 r1 r2
    have H7 := Lib.hid h7
    clear h5 h6 h7
    go_wp2_with (go_at_call 36; refine (Tryd.slices_Sort_string_none none 0 _).mono ?_; rintro e w6 ⟨rfl, rfl⟩)
    have h8 := ((H7.out.setCell (i := 0) (.string (ba r.h))).setCell (i := 1) (.slice pa (prmL l (segR r)).length pc)).setCell (i := 2) (.slice none 0 0)
    have g0 := h8.cell 0
    have g1 := h8.cell 1
    have g2 := h8.cell 2
    have h9 := h8.eq (SP.third _ _ _ _)
    have hq := Q.out
    simp only [Array.setIfInBounds] at g0 g1 g2
    simp at g0 g1 g2
    exact bodyPost_ret (v := .tuple #[.agg #[.string (ba r.h), .slice pa (prmL l (segR r)).length pc, .slice none 0 0], .bool true]) (by simp [results, Tryd.results20, go_sem, g0, g1, g2, hq]) rfl ⟨pa, pc, none, 0, _, rfl, h8, h9.cells, .inl rfl, fun e => by subst e; exact h9.slo_none, fun _ => rfl⟩
  | none =>
    simp only
    have Q := Lib.hid q
    clear q
    go_enter Tryd.func20, Tryd.ntmps20
    go_wp2_with fail
    unfold fnM at HF
    generalize ((((w.alloc (.cells #[.string (ba m)] 9)).alloc (.cells #[.slice ao l.length cap] 37)).alloc (.cells #[.string ⟨#[]⟩, .slice none 0 0, .slice none 0 0] 42)).alloc (.cells #[.string ⟨#[]⟩, .slice none 0 0, .slice none 0 0] 42)) = w4 at *
    generalize w.heap.size + 1 + 1 + 1 = p8 at *
    generalize w.heap.size + 1 + 1 = p6 at *
    generalize w.heap.size + 1 = p5 at *
    have h4 : w.heap.size = w.heap.size := rfl
    go_region_held3 (fun w' => w'.cell? ⟨b, 0, none⟩ = some (.pointer (some ⟨rb, 0, none⟩)) ∧ w'.cell? ⟨p5, 0, none⟩ = some (.slice ao l.length cap)) (first | exact ⟨c0, c5⟩ | exact ⟨f0, f5⟩ | go_keep) ((go_at_call 32; refine (HF.out _ HB.out.drew).mono ?_; rintro e w5 ⟨rfl, hS5⟩; have HS5 := Lib.hid hS5; have f0 := (hS5.below.cell (p := ⟨b, 0, none⟩) hbl).trans HBB.out; have f5 : w5.cell? ⟨p5, 0, none⟩ = some (.slice ao l.length cap) := hS5.box5; clear hS5))
    have h5 := HS5.out
    unfold stateOf at h5
    rw [Q.out] at h5
    obtain ⟨aa, ac, h6⟩ := mO_open.1 h5
    have hal := addAll_len [] R
    rw [List.length_nil, Nat.zero_add] at hal
    have k2 : w5.cell? ⟨p8, 2, none⟩ = some (.slice aa (addAll [] R).length ac) := h6.cell 2
    have hso := sort_slo aa ac (addAll [] R) (h6.eq mO_a) (by omega)
    have hsl : (sortL (addAll [] R)).length = (addAll [] R).length := List.length_mergeSort _
    have HSL := Lib.hid hsl
    generalize addAll [] R = acc at *
    clear h5 h6 hsl hal
    go_wp2_with fail
    refine hso.mono ?_
    rintro e w6 ⟨rfl, h6⟩
    have k0' := (h6.eq (SP.mul_left_comm _ _ _)).cell 0
    have k1' := (h6.eq (SP.mul_left_comm _ _ _)).cell 1
    have k2' := (h6.eq (SP.mul_left_comm _ _ _)).cell 2
    simp at k0' k1' k2'
    have h7 := h6.eq (SP.last6 _ _ _ _ _)
    have r0 := h7.cell 0
    have r1 := h7.cell 1
    have r2 := h7.cell 2
    have rf := fun i => h7.free i
    simp at r0 r1 r2
    have H7 := Lib.hid h7
    clear h6 h7 hso k2
    go_wp2_with fail
    have h8 := ((H7.out.setCell (i := 0) (.string (ba []))).setCell (i := 1) (.slice none 0 0)).setCell (i := 2) (.slice aa acc.length ac)
    have g0 := h8.cell 0
    have g1 := h8.cell 1
    have g2 := h8.cell 2
    have h9 := h8.eq (SP.mul_left_comm _ _ _)
    have hq := Q.out
    simp only [Array.setIfInBounds] at g0 g1 g2
    simp at g0 g1 g2
    have hst := HSL.out
    have h10 : Strs _ aa (sortL acc) := (h9.eq (by rw [hst] : _ = slo 9 1 aa (sortL acc).length ac (strs (sortL acc)) * _)).strs
    exact bodyPost_ret (v := .tuple #[.agg #[.string (ba []), .slice none 0 0, .slice aa acc.length ac], .bool false]) (by simp [results, Tryd.results20, go_sem, g0, g1, g2, hq]) rfl ⟨none, 0, aa, ac, _, by rw [hst]; rfl, h8, ⟨rfl, .inl ⟨rfl, rfl⟩⟩, h10, fun _ => rfl, fun e => by subst e; exact h9.slo_none⟩

theorem Rep.adr_of {w : World} {M : Nat} {A : Nat → Prop} {v : Option Addr} {t : Nd} (h : Rep w M A v t) (ht : t ≠ .nil) : ∃ b, v = some ⟨b, 0, none⟩ := by
  cases h with
  | nil => exact absurd rfl ht
  | @node b => exact ⟨b, rfl⟩

theorem match_any (A : Nat → Prop) (v : Option Addr) (L : List Rt) (m : List UInt8) (l : List (List UInt8)) (ao : Option Addr) (cap : Nat) (w : World) (h : TrieAt w A v L) (hl : Strs w ao l) (hcap : l.length ≤ cap) (hmax : cap ≤ maxLen) (ht : total l ≤ 100000) (hn : L.length ≤ 100000) (hb : ∀ r ∈ L, r.p.length ≤ 300000) :
    Calls Tryd.prog 20 #[.pointer v, .string (ba m), .slice ao l.length cap] w (MatchPost w (matchL L m l)) := by
  rcases h with ⟨rfl, rfl⟩ | ⟨b, vr, rfl, hA, hb0, hR⟩
  · rw [match_nil]
    exact match_void none m ao l.length cap w (.inl rfl)
  · have c0 : w.cell? ⟨b, 0, none⟩ = some (.pointer vr) := by simp [World.cell?, hb0]
    by_cases hL : L = []
    · subst hL
      have hvr : vr = none := by cases hR; rfl
      subst hvr
      rw [match_nil]
      exact match_void (adr b) m ao l.length cap w (.inr ⟨b, rfl, c0⟩)
    · obtain ⟨rb, rfl⟩ := hR.adr_of (build_ne hL)
      have hvis := build_vis segR L l
      have hlen := hits_len L l
      have hok : ∀ r ∈ L, SegsOk (segR r) := fun r _ => patL_segs r.p
      have hRd := (build_den segR L).1
      have hFu := Ful.build segR L
      refine match_full b rb (hitsL segR L l) m l ao cap w c0 (by omega) fun wq hq => ?_
      have hfd := find_any ⟨SP.blk (w.heap.size + 1 + 1) (.cells #[.string (ba []), .slice none 0 0, .slice none 0 0] 42), w, L.length + 1, A, w.heap.size, w.heap.size + 1, w.heap.size + 1 + 1 + 1, m, ao, cap, l⟩ ⟨by show L.length + 1 ≤ 1000000; omega, hl, hcap, ht⟩ l (fun x hx => by have := total_mem hx; omega)
        (buildT segR L) (some ⟨rb, 0, none⟩) ao cap [] wq hR hFu hRd hl hcap hmax hq (by rw [hvis, List.length_nil]; omega) (fun r hr => by
          rw [hvis] at hr
          obtain ⟨h1, h2⟩ := (hits_mem hok).1 hr
          exact ⟨h2, hb r h1⟩)
      rw [hvis] at hfd
      exact hfd
end Go.Proofs.YtlmoifeinglaeaaDoor
