/- What a block is when it is forwarded, over lists alone; it is right, and stays. -/
import Derived.Test.YtecfchkmmnphdaaB6
set_option linter.unusedSimpArgs false
set_option linter.unusedVariables false
namespace Go.Ab
structure Fw where
  l : List IOp
  to : List Int
  stored : Int
def ren (to : List Int) (o : IOp) : IOp := if o.code = 3 ∨ o.code = 5 ∨ o.code = 6 then { o with a := to.getD o.a.toNat 0, b := to.getD o.b.toNat 0 } else if o.code = 4 then { o with a := to.getD o.a.toNat 0 } else o
def knownN (l : List IOp) (stored : Int) (o : IOp) : Int :=
  if o.code ≠ 4 ∨ o.imm.toNat ≠ 13 ∨ stored < 0 then -1 else
    let s := l.getD stored.toNat IOp.zero
    if s.imm.toNat ≠ 18 ∨ s.a ≠ o.a then -1 else s.b
def Fw.step (f : Fw) (o0 : IOp) : Fw :=
  let o := ren f.to o0
  let v := knownN f.l f.stored o
  if 0 ≤ v then ⟨f.l, f.to ++ [v], f.stored⟩ else ⟨f.l ++ [o], f.to ++ [(f.l.length : Int)], if o.code = 5 then f.l.length else f.stored⟩
def Fw.init : Fw := ⟨[], [], -1⟩
def fwd (l : List IOp) : Fw := l.foldl Fw.step Fw.init
def renV (to : List Int) (v : IVl) : IVl := { v with val := to.getD v.val.toNat 0 }
def renE (to : List Int) (e : IEx) : IEx := { e with to := if e.to = -1 then -1 else to.getD e.to.toNat 0, map := e.map.map (renV to) }
def IBk.fw (b : IBk) : IBk := ⟨b.pcs, (fwd b.ops).l, b.exits.map (renE (fwd b.ops).to), b.last⟩
end Go.Ab
