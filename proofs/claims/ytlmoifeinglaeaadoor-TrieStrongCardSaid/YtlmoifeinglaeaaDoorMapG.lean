/- A map that is owned, whatever its keys (a law of the key's type is asked): look-up and store as laws for the walk. No program in sight. -/
import Derived.Test.YtlmoifeinglaeaaDoorMap
namespace Go.Proofs.YtlmoifeinglaeaaDoor
open Go.RowKit Go.ChangeMaps

section
variable {κ : Type} [DecidableEq κ]

def mgE (ky : κ → Value) (kv : List (κ × Value)) (es : Array MapEntry) : Prop := es.toList.map (fun e => (e.key, e.val)) = kv.map fun x => (ky x.1, x.2)
def mg (ky : κ → Value) (b : Nat) (kv : List (κ × Value)) : SP := SP.ex fun x : Array MapEntry × Nat => SP.fact (mgE ky kv x.1) * SP.blk b (.map x.1 x.2)
def lg (kv : List (κ × Value)) (k : κ) : Option Value := (kv.find? fun x => decide (k = x.1)).map (·.2)

/-- What is asked of a key's type. -/
structure KeyLaw (P : Program) (T : TypeId) (ky : κ → Value) : Prop where
  check : ∀ e k w, (Instr.checkKey e 10000 T (ky k)).run P w = .ok () w
  find : ∀ (es : List MapEntry) (kv : List (κ × Value)) (k : κ) (w : World), es.map (fun e => (e.key, e.val)) = kv.map (fun x => (ky x.1, x.2)) →
    ∃ r : Option (Nat × Value), (Instr.findKey T (ky k) es).run P w = .ok r w ∧ r.map (·.2) = lg kv k

variable {P : Program} {w0 w : World} {R : SP} {b : Nat} {kv : List (κ × Value)} {ky : κ → Value}

omit [DecidableEq κ] in
theorem St.mg_open (h : St w0 (mg ky b kv * R) w) : ∃ es clk, mgE ky kv es ∧ St w0 (SP.blk b (.map es clk) * R) w := by
  obtain ⟨⟨es, clk⟩, hx⟩ := h.ex_get
  rw [SP.mul_assoc] at hx
  obtain ⟨h1, h2⟩ := hx.fact_get
  exact ⟨es, clk, h1, h2⟩

omit [DecidableEq κ] in
theorem St.mg_close {es : Array MapEntry} {clk : Nat} (he : mgE ky kv es) (h : St w0 (SP.blk b (.map es clk) * R) w) : St w0 (mg ky b kv * R) w := by
  refine St.ex_put (P := fun x : Array MapEntry × Nat => SP.fact (mgE ky kv x.1) * SP.blk b (.map x.1 x.2)) (es, clk) ?_
  rw [SP.mul_assoc]
  exact h.fact_put he

theorem run_lookup_mg (h : St w0 (mg ky b kv * R) w) {t k e : TypeId} (ht : P.underlying t = some (.map k e)) (hk : KeyLaw P k ky) {z : Value} (hz : (zeroValue e).run P w = .ok z w) (key : κ) :
    (Instr.lookup t (.map (some b)) (ky key) false).run P w = .ok ((lg kv key).getD z) w := by
  obtain ⟨es, clk, he, hS⟩ := h.mg_open
  obtain ⟨r, hr1, hr2⟩ := hk.find es.toList kv key w he
  have hb := hS.blk
  cases r with
  | none =>
    have : lg kv key = none := by rw [← hr2]; rfl
    rw [this]
    simp [Instr.lookup, run_underlying ht, MapKept.run_getObj_map hb, hk.check, hr1, hz, Result.andThen]
  | some x =>
    have : lg kv key = some x.2 := by rw [← hr2]; rfl
    rw [this]
    simp [Instr.lookup, run_underlying ht, MapKept.run_getObj_map hb, hk.check, hr1, Result.andThen]

theorem run_update_mg (h : St w0 (mg ky b kv * R) w) {t k e : TypeId} (ht : P.underlying t = some (.map k e)) (hk : KeyLaw P k ky) (key : κ) (v : Value) (hno : lg kv key = none) :
    ∃ w', (Instr.mapUpdate t (.map (some b)) (ky key) v).run P w = .ok () w' ∧ St w0 (mg ky b (kv ++ [(key, v)]) * R) w' := by
  obtain ⟨es, clk, he, hS⟩ := h.mg_open
  obtain ⟨r, hr1, hr2⟩ := hk.find es.toList kv key w he
  have hb := hS.blk
  cases r with
  | some x => rw [hno] at hr2; cases hr2
  | none =>
    refine ⟨_, by simp [Instr.mapUpdate, run_underlying ht, MapKept.run_getObj_map hb, hk.check, hr1, MapKept.run_setObj_map _ hb, Result.andThen]; rfl, ?_⟩
    have hS' : St w0 (SP.blk b (.map (es.push { key := ky key, val := v, born := clk }) (clk + 1)) * R) (setBlock w b (.map (es.push { key := ky key, val := v, born := clk }) (clk + 1))) :=
      hS.turn rfl rfl rfl (by simp [setBlock]) (fun i _ hi => heap_setBlock_other hb _ hi) (heap_setBlock_same hb _)
    refine St.mg_close ?_ hS'
    unfold mgE at he ⊢
    simp [he]

omit [DecidableEq κ] in
theorem St.mg_made (ky : κ → Value) (h : St w0 R w) : St w0 (mg ky w.heap.size [] * R) (w.alloc (.map #[] 0)) := St.mg_close (es := #[]) (kv := []) rfl (h.alloc _)

theorem wpList_lookup_mg {ops : Array Oper} {rest : List Oper} {o : Oper} {act : Act} {Q : Exit → Act → World → Prop}
    (hw : Region.wanted o (yielded ops act.tmps) = true) (m x : Operand) (t : TypeId) (hop : o.op = Op.lookup t m x false)
    {k e : TypeId} (ht : P.underlying t = some (.map k e)) (hk : KeyLaw P k ky) (z : Value) (hz : (zeroValue e).run P w = .ok z w)
    (h : St w0 (mg ky b kv * R) w) (hm : act.eval m = .map (some b)) (key : κ) (hx : act.eval x = ky key)
    (hK : ∀ v, v = (lg kv key).getD z → wpList P ops Q rest (act.put o.dst v) w) : wpList P ops Q (o :: rest) act w := by
  refine wpList_step fun K hK' => ?_
  rw [if_pos hw]
  have hrun := run_lookup_mg (P := P) h ht hk hz key
  unfold Oper.wp
  simp [execOp, hop, hm, hx, hrun, Result.andThen]
  exact hK' _ _ (hK _ rfl)

theorem wpList_update_mg {ops : Array Oper} {rest : List Oper} {o : Oper} {act : Act} {Q : Exit → Act → World → Prop}
    (hg : o.guard = none) (m x u : Operand) (t : TypeId) (hop : o.op = Op.mapUpdate t m x u)
    {k e : TypeId} (ht : P.underlying t = some (.map k e)) (hk : KeyLaw P k ky)
    (h : St w0 (mg ky b kv * R) w) (hm : act.eval m = .map (some b)) (key : κ) (hx : act.eval x = ky key) (v : Value) (hu : act.eval u = v) (hno : lg kv key = none)
    (hK : ∀ w', St w0 (mg ky b (kv ++ [(key, v)]) * R) w' → wpList P ops Q rest (act.put o.dst undef) w') : wpList P ops Q (o :: rest) act w := by
  refine wpList_plain hg fun K hK' => ?_
  obtain ⟨w', hrun, r⟩ := run_update_mg (P := P) h ht hk key v hno
  unfold Oper.wp
  simp [execOp, hop, hm, hx, hu, hrun, Result.andThen]
  exact hK' _ _ (hK w' r)

/-- A key's type whose values are held against each other one by one ('findAsking'). -/
theorem findAsking_law {T : TypeId} (heq : ∀ (a c : κ) (w : World), (Op.equal T (ky a) (ky c)).run P w = .ok (decide (a = c)) w) (k : κ) (w : World) :
    ∀ (es : List MapEntry) (kv : List (κ × Value)) (i : Nat), es.map (fun e => (e.key, e.val)) = kv.map (fun x => (ky x.1, x.2)) →
      ∃ r : Option (Nat × Value), (Instr.findAsking T (ky k) es i).run P w = .ok r w ∧ r.map (·.2) = lg kv k
  | [], [], _, _ => ⟨none, rfl, rfl⟩
  | [], _ :: _, _, h => by simp at h
  | _ :: _, [], _, h => by simp at h
  | e :: es, x :: kv, i, h => by
    simp only [List.map_cons, List.cons.injEq, Prod.mk.injEq] at h
    obtain ⟨⟨h1, h2⟩, h3⟩ := h
    unfold Instr.findAsking
    rw [h1]
    by_cases hk : k = x.1
    · exact ⟨some (i, e.val), by simp [heq, hk, Result.andThen], by simp [lg, hk, h2]⟩
    · obtain ⟨r, hr1, hr2⟩ := findAsking_law heq k w es kv (i + 1) h3
      exact ⟨r, by simp [heq, hk, hr1, Result.andThen], by rw [hr2]; simp [lg, hk]⟩

/-- A key's type that is no number, text or bool: a struct. -/
theorem keyLaw_struct {T : TypeId} {fs : Array Field} (hT : P.underlying T = some (.struct fs)) (hc : ∀ e k w, (Instr.checkKey e 10000 T (ky k)).run P w = .ok () w)
    (heq : ∀ (a c : κ) (w : World), (Op.equal T (ky a) (ky c)).run P w = .ok (decide (a = c)) w) : KeyLaw P T ky := by
  refine ⟨hc, fun es kv k w h => ?_⟩
  cases es with
  | nil =>
    cases kv with
    | nil => exact ⟨none, by simp [Instr.findKey, run_underlying hT, Instr.findNow, Result.andThen], rfl⟩
    | cons x r => simp at h
  | cons e es =>
    obtain ⟨r, h1, h2⟩ := findAsking_law (P := P) heq k w (e :: es) kv 0 h
    refine ⟨r, ?_, h2⟩
    have hn : Instr.findNow (.struct fs) (ky k) (e :: es) 0 = none := by simp [Instr.findNow, Instr.sameNow]
    simp only [Instr.findKey, Sem.run_bind, run_underlying hT, Result.andThen_ok, hn]
    exact h1
end
#print axioms keyLaw_struct
#print axioms wpList_update_mg
end Go.Proofs.YtlmoifeinglaeaaDoor
