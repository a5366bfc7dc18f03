/- Tables of routes (layer 7): the key of Check's map. -/
import Derived.Test.YtlmoifeinglaeaaDoorTable
import Derived.Test.YtlmoifeinglaeaaDoorMapG
import Derived.Laws.StructEq
namespace Go.Proofs.YtlmoifeinglaeaaDoor
open Go.RowKit

def fky (x : List UInt8 × List UInt8) : Value := .agg #[.string (ba x.1), .string (ba x.2)]

theorem ba_beq (a b : List UInt8) : (ba a == ba b) = decide (a = b) := by
  rw [Bool.eq_iff_iff, beq_ba, decide_eq_true_eq]
  exact ⟨fun h => by rw [← bl_ba a, h, bl_ba], fun h => by rw [h]⟩

theorem check_field (e : Bool) (a b : ByteArray) (w : World) : (Instr.checkKey e 10000 104 (.agg #[.string a, .string b])).run Tryd.prog w = .ok () w := by kernel_rfl

noncomputable def fldA : Field := ((Tryd.prog.fieldsOf 104).toList)[0]!
noncomputable def fldB : Field := ((Tryd.prog.fieldsOf 104).toList)[1]!

theorem fields_field : (Tryd.prog.fieldsOf 104).toList = [fldA, fldB] := by kernel_rfl
theorem fldA_name : (fldA.name == "_") = false := by kernel_rfl
theorem fldB_name : (fldB.name == "_") = false := by kernel_rfl
theorem fldA_part (a b : ByteArray) (w : World) : (part fldA.type #[.string a, .string b] fldA.offset).run Tryd.prog w = .ok (.string a) w := by kernel_rfl
theorem fldB_part (a b : ByteArray) (w : World) : (part fldB.type #[.string a, .string b] fldB.offset).run Tryd.prog w = .ok (.string b) w := by kernel_rfl
theorem fldA_type : Tryd.prog.underlying fldA.type = some .string := by kernel_rfl
theorem fldB_type : Tryd.prog.underlying fldB.type = some .string := by kernel_rfl

theorem equal_field (a b c d : ByteArray) (w : World) : (Op.equal 104 (.agg #[.string a, .string b]) (.agg #[.string c, .string d])).run Tryd.prog w = .ok (a == c && b == d) w := by
  unfold Op.equal Op.maxDepth
  rw [run_equalIn_struct w 9999 _ _ _ (by kernel_rfl) (by kernel_rfl), fields_field]
  have hA : fldA.name ≠ "_" := by simpa using fldA_name
  have hB : fldB.name ≠ "_" := by simpa using fldB_name
  simp only [Op.eqFields, if_pos hA, if_pos hB, Sem.run_bind, fldA_part, Result.andThen_ok, run_equalIn_string w 9998 _ _ _ fldA_type, ← beq_toListBytes]
  cases a == c <;> cases h : b == d <;> simp [fldB_part, run_equalIn_string w 9998 _ _ _ fldB_type, Result.andThen_ok, ← beq_toListBytes, h]

theorem keyLaw_field : KeyLaw Tryd.prog 104 fky := by
  refine keyLaw_struct (fs := Tryd.prog.fieldsOf 104) (by kernel_rfl) (fun e k w => check_field e _ _ w) fun a c w => ?_
  unfold fky
  rw [equal_field, ba_beq, ba_beq]
  congr 1
  obtain ⟨a1, a2⟩ := a
  obtain ⟨c1, c2⟩ := c
  rw [Bool.eq_iff_iff]
  simp
#print axioms keyLaw_field
end Go.Proofs.YtlmoifeinglaeaaDoor
