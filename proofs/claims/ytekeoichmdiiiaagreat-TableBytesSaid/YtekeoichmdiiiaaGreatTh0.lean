/- Part 0 of what the laws' proofs rest on. No condition. -/
import Derived.WalkKit
import Derived.WalkSpells
import Derived.WalkLawsBesides
import Derived.Deep.AppendSrc
import Derived.Deep.QuietTactic
import Derived.BigQuiet
import Derived.Lib.Hide
import Derived.Deep.MidRow
import Derived.Deep.WholeRow
set_option linter.all false
namespace Go.Proofs.YtekeoichmdiiiaaGreat
section
open Go.RowKit
structure Kept (S:Nat->Prop) (w w':World):Prop where
 os:w'.os=w.os
 tape:w'.tape=w.tape
 output:w'.output=w.output
 size:w.heap.size<=w'.heap.size
 block:∀k,k<w.heap.size->¬S k->w'.heap[k]?=w.heap[k]?
def NoS:Nat->Prop:=fun _=>False
theorem Kept.below {S:Nat->Prop} {B:Nat} {a b:World} (h:Kept S a b) (hB:B<=a.heap.size) (hs:∀k,k<a.heap.size->S k->B<=k):Below B a b:=
 ⟨h.os,h.tape,h.output,h.size,fun k hk=>h.block k (by omega) fun e=>by have:=hs k (by omega) e;omega⟩
def Sl (w:World) (v:Value) (n:Nat) (cs:List Value):Prop:=
 ((∃a,v=.slice a 0 0)/\n=0/\cs=[]) \/
 ∃b off cap,v=.slice (some ⟨b,off,none⟩) n cap/\n<=cap/\cap<=maxLen/\∀i u,cs[i]?=some u->w.cell? ⟨b,off+i,none⟩=some u
theorem Addr.add_none (b o j:Nat):(⟨b,o,none⟩:Addr).add j=⟨b,o+j,none⟩:=by unfold Addr.add;split <;> simp_all
section
variable {P:Program} (w:World)
end
end
end Go.Proofs.YtekeoichmdiiiaaGreat
