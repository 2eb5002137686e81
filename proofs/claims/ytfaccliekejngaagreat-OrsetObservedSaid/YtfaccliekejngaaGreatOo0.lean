/- Part 0 of what the laws' proofs rest on. No condition. -/
import Derived.WalkKit
import Derived.WalkSpells
import Derived.WalkLawsBesides
import Derived.Deep.AppendSrc
import Derived.Deep.QuietTactic
import Derived.BigQuiet
import Derived.Lib.Hide
import Derived.Deep.MidRow
import Derived.Deep.WholeRow
set_option linter.all false
section
namespace Go.Proofs.YtfaccliekejngaaGreat
open Go.RowKit
structure Kept (S : Nat → Prop) (w w' : World) : Prop where
 os : w'.os = w.os
 tape : w'.tape = w.tape
 output : w'.output = w.output
 size : w.heap.size ≤ w'.heap.size
 block : ∀ k, k < w.heap.size → ¬ S k → w'.heap[k]? = w.heap[k]?
def NoS : Nat → Prop := fun _ => False
theorem Kept.below {S : Nat → Prop} {B : Nat} {a b : World} (h : Kept S a b) (hB : B ≤ a.heap.size) (hs : ∀ k, k < a.heap.size → S k → B ≤ k) : Below B a b :=
 ⟨h.os, h.tape, h.output, h.size, fun k hk => h.block k (by omega) fun e => by have := hs k (by omega) e; omega⟩
def Blk (w : World) (b : Nat) (vs : Array Value) (e : TypeId) : Prop := w.heap[b]? = some (.cells vs e (0, 0))
theorem Blk.cell {w : World} {b : Nat} {vs : Array Value} {e : TypeId} (h : Blk w b vs e) (i : Nat) : w.cell? ⟨b, i, none⟩ = vs[i]? := by
 unfold Blk at h; simp [World.cell?, h]
theorem Blk.at {w : World} {b : Nat} {vs : Array Value} {e : TypeId} (h : Blk w b vs e) (i : Nat) {u : Value} (hu : vs[i]? = some u) : w.cell? ⟨b, i, none⟩ = some u := (h.cell i).trans hu
def Sl (w : World) (v : Value) (n : Nat) (cs : List Value) : Prop :=
 ((∃ a, v = .slice a 0 0) ∧ n = 0 ∧ cs = []) ∨
 ∃ b off cap, v = .slice (some ⟨b, off, none⟩) n cap ∧ n ≤ cap ∧ cap ≤ maxLen ∧ ∀ i u, cs[i]? = some u → w.cell? ⟨b, off + i, none⟩ = some u
theorem Addr.add_none (b o j : Nat) : (⟨b, o, none⟩ : Addr).add j = ⟨b, o + j, none⟩ := by unfold Addr.add; split <;> simp_all
theorem Sl.at {w : World} {v : Value} {n : Nat} {cs : List Value} (h : Sl w v n cs) : ∃ ao cap, v = .slice ao n cap ∧ n ≤ cap ∧ cap ≤ maxLen ∧ ∀ i u, cs[i]? = some u → ∃ b off, ao = some ⟨b, off, none⟩ ∧ w.cell? ⟨b, off + i, none⟩ = some u := by
 rcases h with ⟨⟨a, rfl⟩, rfl, rfl⟩ | ⟨b, off, cap, rfl, h1, h2, h3⟩
 ·exact ⟨a, 0, rfl, Nat.le_refl _, Nat.zero_le _, fun i u hu => by simp at hu⟩
 ·exact ⟨_, cap, rfl, h1, h2, fun i u hu => ⟨b, off, rfl, h3 i u hu⟩⟩
theorem Sl.get {w : World} {ao : Option Addr} {m cap n : Nat} {cs : List Value} (h : Sl w (.slice ao m cap) n cs) {i : Nat} {u : Value} (hu : cs[i]? = some u) : ∃ b off, ao = some ⟨b, off, none⟩ ∧ w.cell? ⟨b, off + i, none⟩ = some u := by
 obtain ⟨ao', cap', h1, _, _, h4⟩ := Sl.at h
 cases h1
 exact h4 i u hu
def RdI (w : World) (v : Value) (xs : List Int) : Prop := Sl w v xs.length (xs.map (Value.int .i64))
theorem RdI.at {w : World} {v : Value} {xs : List Int} (h : RdI w v xs) : ∃ ao cap, v = .slice ao xs.length cap ∧ xs.length ≤ cap ∧ cap ≤ maxLen ∧ ∀ i x, xs[i]? = some x → ∃ b off, ao = some ⟨b, off, none⟩ ∧ w.cell? ⟨b, off + i, none⟩ = some (.int .i64 x) := by
 obtain ⟨ao, cap, h1, h2, h3, h4⟩ := Sl.at h
 exact ⟨ao, cap, h1, h2, h3, fun i x hx => h4 i _ (by simp [hx])⟩
theorem RdI.get {w : World} {ao : Option Addr} {m cap : Nat} {xs : List Int} (h : RdI w (.slice ao m cap) xs) {i : Nat} {x : Int} (hx : xs[i]? = some x) : ∃ b off, ao = some ⟨b, off, none⟩ ∧ w.cell? ⟨b, off + i, none⟩ = some (.int .i64 x) :=
 Sl.get h (by simp [hx])
section
variable {P : Program} (w : World)
end
end Go.Proofs.YtfaccliekejngaaGreat
end
