/- A map with texts as keys that is owned (in the separation logic of Sep): look-up and store as laws for the walk. No program in sight. -/
import Derived.Test.YtlmoifeinglaeaaDoorSlo
import Derived.Maps.OwnOps
namespace Go.Proofs.YtlmoifeinglaeaaDoor
open Go.RowKit Go.ChangeMaps

/-- The entries, in order, hold these keys and values. -/
def mpE (kv : List (ByteArray × Value)) (es : Array MapEntry) : Prop := es.toList.map (fun e => (e.key, e.val)) = kv.map fun x => (Value.string x.1, x.2)

/-- Block b is a map with these keys and values. -/
def mp (b : Nat) (kv : List (ByteArray × Value)) : SP := SP.ex fun x : Array MapEntry × Nat => SP.fact (mpE kv x.1) * SP.blk b (.map x.1 x.2)

def lk (kv : List (ByteArray × Value)) (k : ByteArray) : Option Value := (kv.find? fun x => k == x.1).map (·.2)

theorem findNow_str (k : ByteArray) : ∀ (es : List MapEntry) (kv : List (ByteArray × Value)) (i : Nat), es.map (fun e => (e.key, e.val)) = kv.map (fun x => (Value.string x.1, x.2)) →
    ∃ r, Instr.findNow .string (.string k) es i = some r ∧ r.map (·.2) = lk kv k
  | [], [], _, _ => ⟨none, rfl, rfl⟩
  | [], _ :: _, _, h => by simp at h
  | _ :: _, [], _, h => by simp at h
  | e :: es, x :: kv, i, h => by
    simp only [List.map_cons, List.cons.injEq, Prod.mk.injEq] at h
    obtain ⟨⟨h1, h2⟩, h3⟩ := h
    unfold Instr.findNow
    rw [h1]
    cases hk : k == x.1 with
    | true => exact ⟨some (i, e.val), by simp [Instr.sameNow, hk], by simp [lk, hk, h2]⟩
    | false =>
      obtain ⟨r, hr1, hr2⟩ := findNow_str k es kv (i + 1) h3
      exact ⟨r, by simp [Instr.sameNow, hk, hr1], by rw [hr2]; simp [lk, hk]⟩

section
variable {P : Program} {w0 w : World} {R : SP} {b : Nat} {kv : List (ByteArray × Value)}

theorem St.mp_open (h : St w0 (mp b kv * R) w) : ∃ es clk, mpE kv es ∧ St w0 (SP.blk b (.map es clk) * R) w := by
  obtain ⟨⟨es, clk⟩, hx⟩ := h.ex_get
  rw [SP.mul_assoc] at hx
  obtain ⟨h1, h2⟩ := hx.fact_get
  exact ⟨es, clk, h1, h2⟩

theorem St.mp_close {es : Array MapEntry} {clk : Nat} (he : mpE kv es) (h : St w0 (SP.blk b (.map es clk) * R) w) : St w0 (mp b kv * R) w := by
  refine St.ex_put (P := fun x : Array MapEntry × Nat => SP.fact (mpE kv x.1) * SP.blk b (.map x.1 x.2)) (es, clk) ?_
  rw [SP.mul_assoc]
  exact h.fact_put he

theorem run_checkKey_str {k : TypeId} (hk : P.underlying k = some .string) (e : Bool) (s : ByteArray) (w : World) : (Instr.checkKey e 10000 k (.string s)).run P w = .ok () w := by
  show (Instr.checkKey e (9999 + 1) k (.string s)).run P w = _
  unfold Instr.checkKey
  simp only [Sem.run_bind, run_underlying hk, Result.andThen_ok]
  rfl

theorem run_lookup_mp (h : St w0 (mp b kv * R) w) {t k e : TypeId} (ht : P.underlying t = some (.map k e)) (hk : P.underlying k = some .string) {z : Value} (hz : (zeroValue e).run P w = .ok z w) (key : ByteArray) :
    (Instr.lookup t (.map (some b)) (.string key) false).run P w = .ok ((lk kv key).getD z) w := by
  obtain ⟨es, clk, he, hS⟩ := h.mp_open
  obtain ⟨r, hr1, hr2⟩ := findNow_str key es.toList kv 0 he
  have hb := hS.blk
  cases r with
  | none =>
    have : lk kv key = none := by rw [← hr2]; rfl
    rw [this]
    simp [Instr.lookup, run_underlying ht, MapKept.run_getObj_map hb, run_checkKey_str hk, Instr.findKey, run_underlying hk, hr1, hz, Result.andThen]
  | some x =>
    have : lk kv key = some x.2 := by rw [← hr2]; rfl
    rw [this]
    simp [Instr.lookup, run_underlying ht, MapKept.run_getObj_map hb, run_checkKey_str hk, Instr.findKey, run_underlying hk, hr1, Result.andThen]

theorem run_update_mp (h : St w0 (mp b kv * R) w) {t k e : TypeId} (ht : P.underlying t = some (.map k e)) (hk : P.underlying k = some .string) (key : ByteArray) (v : Value) (hno : lk kv key = none) :
    ∃ w', (Instr.mapUpdate t (.map (some b)) (.string key) v).run P w = .ok () w' ∧ St w0 (mp b (kv ++ [(key, v)]) * R) w' := by
  obtain ⟨es, clk, he, hS⟩ := h.mp_open
  obtain ⟨r, hr1, hr2⟩ := findNow_str key es.toList kv 0 he
  have hb := hS.blk
  cases r with
  | some x => rw [hno] at hr2; cases hr2
  | none =>
    refine ⟨_, by simp [Instr.mapUpdate, run_underlying ht, MapKept.run_getObj_map hb, run_checkKey_str hk, Instr.findKey, run_underlying hk, hr1, MapKept.run_setObj_map _ hb, Result.andThen]; rfl, ?_⟩
    have hS' : St w0 (SP.blk b (.map (es.push { key := .string key, val := v, born := clk }) (clk + 1)) * R) (setBlock w b (.map (es.push { key := .string key, val := v, born := clk }) (clk + 1))) :=
      hS.turn rfl rfl rfl (by simp [setBlock]) (fun i _ hi => heap_setBlock_other hb _ hi) (heap_setBlock_same hb _)
    refine St.mp_close ?_ hS'
    unfold mpE at he ⊢
    simp [he]

theorem St.mp_made (h : St w0 R w) : St w0 (mp w.heap.size [] * R) (w.alloc (.map #[] 0)) := St.mp_close (es := #[]) (kv := []) rfl (h.alloc _)

/-- 'm[k]' for the walk. -/
theorem wpList_lookup_mp {ops : Array Oper} {rest : List Oper} {o : Oper} {act : Act} {Q : Exit → Act → World → Prop}
    (hw : Region.wanted o (yielded ops act.tmps) = true) (m x : Operand) (t : TypeId) (hop : o.op = Op.lookup t m x false)
    {k e : TypeId} (ht : P.underlying t = some (.map k e)) (hk : P.underlying k = some .string) (z : Value) (hz : (zeroValue e).run P w = .ok z w)
    (h : St w0 (mp b kv * R) w) (hm : act.eval m = .map (some b)) (key : ByteArray) (hx : act.eval x = .string key)
    (hK : ∀ v, v = (lk kv key).getD z → wpList P ops Q rest (act.put o.dst v) w) : wpList P ops Q (o :: rest) act w := by
  refine wpList_step fun K hK' => ?_
  rw [if_pos hw]
  have hrun := run_lookup_mp (P := P) h ht hk hz key
  unfold Oper.wp
  simp [execOp, hop, hm, hx, hrun, Result.andThen]
  exact hK' _ _ (hK _ rfl)

/-- 'm[k] = v', k not yet there, for the walk. -/
theorem wpList_update_mp {ops : Array Oper} {rest : List Oper} {o : Oper} {act : Act} {Q : Exit → Act → World → Prop}
    (hg : o.guard = none) (m x u : Operand) (t : TypeId) (hop : o.op = Op.mapUpdate t m x u)
    {k e : TypeId} (ht : P.underlying t = some (.map k e)) (hk : P.underlying k = some .string)
    (h : St w0 (mp b kv * R) w) (hm : act.eval m = .map (some b)) (key : ByteArray) (hx : act.eval x = .string key) (v : Value) (hu : act.eval u = v) (hno : lk kv key = none)
    (hK : ∀ w', St w0 (mp b (kv ++ [(key, v)]) * R) w' → wpList P ops Q rest (act.put o.dst undef) w') : wpList P ops Q (o :: rest) act w := by
  refine wpList_plain hg fun K hK' => ?_
  obtain ⟨w', hrun, r⟩ := run_update_mp (P := P) h ht hk key v hno
  unfold Oper.wp
  simp [execOp, hop, hm, hx, hu, hrun, Result.andThen]
  exact hK' _ _ (hK w' r)
end

#print axioms wpList_update_mp
#print axioms wpList_lookup_mp
end Go.Proofs.YtlmoifeinglaeaaDoor
