/- Trees of routes (layer 8): what word, put, step and find do to trees. -/
import Derived.Test.YtlmoifeinglaeaaDoorTrieC
namespace Go.Proofs.YtlmoifeinglaeaaDoor

/-- The first edge whose text begins as s does. -/
def findE (es : List (List UInt8 × Nd)) (s : List UInt8) : Option Nat := es.findIdx? fun e => comm e.1 s != 0

def Nd.next (t : Nd) (F : Nd → Nd) : Nd := .node t.es (F t.nx) t.pm t.rs t.en
def Nd.edges (t : Nd) (es : List (List UInt8 × Nd)) : Nd := .node es t.nx t.pm t.rs t.en

/-- word: fuel: no less than the text's length. -/
def wordT (F : Nd → Nd) : Nat → Nd → List UInt8 → Nd
  | 0, t, _ => t.next F
  | k + 1, t, s => if s = [] then t.next F else
    match findE t.es s with
    | none => t.edges (t.es ++ [(s, wordT F k .nil [])])
    | some i =>
      let x := t.es.getD i ([], .nil)
      let c := comm x.1 s
      if c = x.1.length then t.edges (t.es.set i (x.1, wordT F k x.2 (s.drop c)))
      else t.edges (t.es.set i (x.1.take c, wordT F k (.node [(x.1.drop c, x.2)] .nil .nil .nil []) (s.drop c)))

/-- put. -/
def putT : List (List UInt8) → Rt → Nd → Nd
  | [], r, t => .node t.es t.nx t.pm t.rs (t.en ++ [r])
  | x :: l, r, t =>
    if kindL x = 0 then wordT (putT l r) x.length t x
    else if kindL x = 1 then .node t.es t.nx (putT l r t.pm) t.rs t.en
    else .node t.es t.nx t.pm (.node t.rs.es t.rs.nx t.rs.pm t.rs.rs (t.rs.en ++ [r])) t.en

/-- step: fuel: no less than the text's length. -/
def stepT : Nat → Nd → List UInt8 → Nd
  | 0, t, _ => t.nx
  | k + 1, t, s => if s = [] then t.nx else
    match t.es.find? fun e => e.1.isPrefixOf s with
    | none => .nil
    | some e => stepT k e.2 (s.drop e.1.length)

/-- What find goes over: all that ends at a path, the strongest first. -/
def visT : List (List UInt8) → Nd → List (List Rt)
  | _, .nil => []
  | [], .node _ _ _ _ en => if en = [] then [] else [en]
  | x :: l, .node es nx pm rs en =>
    (if x = [] then [] else visT l (stepT x.length (.node es nx pm rs en) x) ++ visT l pm) ++
    (match rs with | .nil => [] | .node _ _ _ _ e => [e])
end Go.Proofs.YtlmoifeinglaeaaDoor
