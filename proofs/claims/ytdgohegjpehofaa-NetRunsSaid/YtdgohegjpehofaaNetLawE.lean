/- NetRuns: what the arms share at which there is such a connection. -/
import Derived.Test.YtdgohegjpehofaaNetLawD
namespace Go.Proofs.Ytdgohegjpehofaa
open Go.RowKit

theorem slo_tail {w0 w : World} {R : SP} {E : TypeId} {ao : Option Addr} {n cap : Nat} {x : Value} {xs : List Value} (h : St w0 (slo E 1 ao (n + 1) cap (x :: xs) * R) w) :
    St w0 (slo E 1 (cutAt ao cap 1 1) n (cap - 1) xs * R) w := h.slo_cut (k := 1) (by omega)

section
variable {W : World} {a k : Nat} {s : Ns} {l : Lw} {cb : Nat} {K I : Int} {D : ByteArray} {v0 v23 v24 v25 : Value} {Kc : Act → World → Prop}

theorem Goes.put {f : Nat → Value} {s' : Ns} (h : Goes f a s l v0 v23 v24 v25) (j : Nat) (m : Mn) : Goes f a s' (l.put j m) v0 v23 v24 v25 := by
  obtain ⟨h0, h3, h4, h5, h23, h24, h25⟩ := h
  exact ⟨h0, h3, by rw [h4]; simp [Lw.put], h5, h23, h24, h25⟩

/-- One connection turned on both sides. -/
theorem fin_put (hK : Hid (ArmK W a k v0 v23 v24 v25 Kc)) (hsyn : Syn k s l) {j : Nat} (hj : j < l.ms.length) {c : Cn} {m : Mn} (hb : m.blk = l.ms[j].blk) (he : c.ab = m.ab)
    (hl : c.inq.length ≤ k + 1 ∧ c.came ≤ 200 * (k + 1) ∧ c.out.size ≤ 200 * (k + 1)) {f : Nat → Value} {w2 : World} (hg : Goes f a s l v0 v23 v24 v25)
    (hst : St W (mcn m * (lawBut l j * (net a (s.put j c) * callB cb K I D))) w2) : Kc (Fr 403 f) w2 :=
  hK.out f w2 (s.put j c) (l.put j m) (hg.put j m) ((hst.law_back hj hb).front.leave) (hsyn.put he hl)

/-- What there is of the connection on both sides. -/
theorem both {w : World} (hST : St W (net a s * (law l * callB cb K I D)) w) {j : Nat} (hj : j < l.ms.length) :
    St W (mcn l.ms[j] * (lawBut l j * (net a s * callB cb K I D))) w := hST.front.law_mcn hj

theorem Syn.light' (h : Syn k s l) {j : Nat} (hj : j < s.conns.length) : s.conns[j].inq.length ≤ k ∧ s.conns[j].came ≤ 200 * k ∧ s.conns[j].out.size ≤ 200 * k := h.light _ (List.getElem_mem hj)
end
end Go.Proofs.Ytdgohegjpehofaa
