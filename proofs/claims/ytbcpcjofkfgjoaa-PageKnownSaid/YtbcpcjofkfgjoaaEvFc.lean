/- One operation on trees is the abstract machine's. -/
import Derived.Test.YtbcpcjofkfgjoaaEvFb
namespace Go.Proofs.Ytbcpcjofkfgjoaa
open Go.RowKit

theorem blk_of {g : GT} {h : List AB} {id : Nat} (hg : blkO (g id) = blkO (h[id]?)) {f m : Bool} {x : List AV} (e : g id = some (.blk f m x)) : h[id]? = some (.blk f m x) := by
  rw [e] at hg
  simp only [blkO] at hg
  split at hg
  · rename_i a b c q
    cases hg
    exact q
  · cases hg
  · cases hg
theorem iter_of {g : GT} {h : List AB} {id : Nat} (hg : blkO (g id) = blkO (h[id]?)) {t : ByteArray} {p : Nat} (e : g id = some (.iter t p)) : h[id]? = some (.iter t p) := by
  rw [e] at hg
  simp only [blkO] at hg
  split at hg
  · cases hg
  · rename_i a b q
    cases hg
    exact q
  · cases hg
theorem rdG_eq {g : GT} {h : List AB} {id : Nat} (hg : blkO (g id) = blkO (h[id]?)) : rdG g id = rdBlk h id := by
  unfold rdG rdBlk
  unfold blkO at hg
  split at hg <;> split at hg <;> simp_all
theorem ldG_eq {g : GT} {h : List AB} (hg : ∀ id, blkO (g id) = blkO (h[id]?)) (n : Option Nat) (x : AV) : ldG g n x = ldV h n x := by
  unfold ldG ldV
  cases n <;> cases x <;> simp only [rdG_eq (hg _), nthO_eq]
theorem srcG_eq {g : GT} {h : List AB} (hg : ∀ id, blkO (g id) = blkO (h[id]?)) (sz : Nat) (x : AV) : srcG g sz x = srcV h sz x := by
  unfold srcG srcV
  cases x <;> simp only [rdG_eq (hg _)]
theorem stG_ok {g : GT} {h : List AB} (hg : ∀ id, blkO (g id) = blkO (h[id]?)) {id off : Nat} {l : List AV} {e : HE} (q : stG g id off l = some e) : stB h id off l = some (appL h e) ∧ e.fits g := by
  unfold stG at q
  split at q
  · rename_i fl xs hB
    split at q
    · rename_i hc
      cases q
      unfold stB
      rw [blk_of (hg id) hB]
      simp only
      rw [if_pos hc]
      exact ⟨rfl, _, hB⟩
    · cases q
  · cases q
theorem stVG_ok {g : GT} {h : List AB} (hg : ∀ id, blkO (g id) = blkO (h[id]?)) {n : Option Nat} {x y : AV} {e : HE} (q : stVG g n x y = some e) : stV h n x y = some (appL h e) ∧ e.fits g := by
  unfold stVG at q
  split at q
  · split at q
    · rename_i h1
      obtain ⟨a, b⟩ := stG_ok hg q
      simp only [stV]
      rw [if_pos h1]
      exact ⟨a, b⟩
    · cases q
  · split at q
    · rename_i h1
      obtain ⟨a, b⟩ := stG_ok hg q
      simp only [stV]
      rw [if_pos h1]
      exact ⟨a, b⟩
    · cases q
  · cases q
theorem newG_ok {g : GT} {h : List AB} {fl : Bool} {cs : List AV} {f : Nat → AV} {v : AV} {e : HE} (q : newG h.length fl cs f = some (v, e)) : newB h fl cs f = some (v, appL h e) ∧ e.fits g := by
  unfold newG at q
  split at q
  · rename_i hc
    cases q
    unfold newB
    rw [if_pos hc]
    exact ⟨rfl, trivial⟩
  · cases q
theorem appG_ok {g : GT} {h : List AB} (hg : ∀ id, blkO (g id) = blkO (h[id]?)) {fl : Bool} {sz by_ : Nat} {s x v : AV} {e : HE} (q : appG g h.length fl sz by_ s x = some (v, e)) : appV h fl sz by_ s x = some (v, appL h e) ∧ e.fits g := by
  unfold appG at q
  unfold appV
  rw [srcG_eq hg] at q
  obtain ⟨⟨m, ys⟩, hs, q⟩ := Option.bind_eq_some_iff.1 q
  rw [hs]
  simp only [Option.bind_some]
  dsimp only at q
  split at q
  · rename_i hall
    rw [if_pos hall]
    split at q
    · split at q
      · rename_i h0
        cases q
        rw [if_pos h0]
        exact ⟨rfl, trivial⟩
      · rename_i h0
        rw [if_neg h0]
        split at q
        · rename_i h1
          cases q
          rw [if_pos h1]
          exact ⟨rfl, trivial⟩
        · cases q
    · dsimp only
      split at q
      · rename_i h0
        cases q
        rw [if_pos h0]
        exact ⟨rfl, trivial⟩
      · rename_i h0
        rw [if_neg h0]
        split at q
        · rename_i h1
          obtain ⟨e', he, q⟩ := Option.map_eq_some_iff.1 q
          cases q
          obtain ⟨a, b⟩ := stG_ok hg he
          rw [if_pos h1, a]
          exact ⟨rfl, b⟩
        · rename_i h1
          rw [if_neg h1]
          split at q
          · rename_i fl' mu xs hB
            rw [blk_of (hg _) hB]
            dsimp only
            split at q
            · rename_i h2
              rw [if_pos h2]
              split at q
              · rename_i h3
                cases q
                rw [if_pos h3]
                exact ⟨rfl, trivial⟩
              · rename_i h3
                rw [if_neg h3]
                split at q
                · rename_i h4
                  cases q
                  rw [if_pos h4]
                  exact ⟨rfl, _, hB⟩
                · rename_i h4
                  rw [if_neg h4]
                  split at q
                  · rename_i h5
                    cases q
                    rw [if_pos h5]
                    exact ⟨rfl, _, hB⟩
                  · cases q
            · cases q
          · cases q
    · cases q
  · cases q
theorem cpyG_ok {g : GT} {h : List AB} (hg : ∀ id, blkO (g id) = blkO (h[id]?)) {sz : Nat} {d s v : AV} {e : HE} (q : cpyG g sz d s = some (v, e)) : cpyV h sz d s = some (v, appL h e) ∧ e.fits g := by
  unfold cpyG at q
  unfold cpyV
  rw [srcG_eq hg] at q
  obtain ⟨⟨m, ys⟩, hs, q⟩ := Option.bind_eq_some_iff.1 q
  rw [hs]
  simp only [Option.bind_some]
  dsimp only at q
  split at q
  · split at q
    · rename_i h1
      obtain ⟨e', he, q⟩ := Option.map_eq_some_iff.1 q
      cases q
      obtain ⟨a, b⟩ := stG_ok hg he
      dsimp only
      rw [if_pos h1, a]
      exact ⟨rfl, b⟩
    · cases q
  · cases q
theorem free_ok {op : CO} (hm : op.mk = .free) {ev : Opd → AV} (g : GT) (h : List AB) {v : AV} {e : HE} (q : freeG (op.runF ev []) = some (v, e)) : op.run ev h = some (v, appL h e) ∧ e.fits g := by
  rw [runF_eq] at q
  unfold freeG at q
  split at q
  · rename_i v' h0 hr
    cases q
    rw [free_run hm, hr]
    exact ⟨rfl, trivial⟩
  · cases q
theorem opE_ok (op : CO) (hc : op.isCall = none) {ev : Opd → AV} {g : GT} {h : List AB} (hg : ∀ id, blkO (g id) = blkO (h[id]?)) {v : AV} {e : HE} (q : opE op ev g h.length = some (v, e)) : op.run ev h = some (v, appL h e) ∧ e.fits g := by
  cases op with
  | call f args => cases hc
  | stop => cases q
  | ld n x =>
    change valG (ldG g n (ev x)) = _ at q
    rw [ldG_eq hg] at q
    unfold valG at q
    split at q
    · rename_i v' hv
      cases q
      simp only [CO.run]
      rw [hv]
      exact ⟨rfl, trivial⟩
    · cases q
  | st n x y =>
    change untG (stVG g n (ev x) (ev y)) = _ at q
    unfold untG at q
    split at q
    · rename_i e' he
      cases q
      obtain ⟨a, b⟩ := stVG_ok hg he
      simp only [CO.run]
      rw [a]
      exact ⟨rfl, b⟩
    · cases q
  | new fl zs =>
    change newG h.length fl zs (fun n => .p n 0) = _ at q
    exact newG_ok q
  | box fl n x =>
    change (if (ev x).cells.length = n then newG h.length fl (ev x).cells (fun n => .p n 0) else none) = _ at q
    simp only [CO.run]
    split at q
    · rename_i h1
      rw [if_pos h1]
      exact newG_ok q
    · cases q
  | bls fl k zs ps =>
    change ((fillV ev zs ps).bind fun cs => newG h.length fl cs (fun n => .sl n 0 k k none)) = _ at q
    simp only [CO.run]
    obtain ⟨cs, hcs, q⟩ := Option.bind_eq_some_iff.1 q
    rw [hcs]
    exact newG_ok q
  | mks fl z by_ le ca =>
    change (match ev le, ev ca with
      | .i _ l, .i _ c => if 0 ≤ l ∧ l ≤ c ∧ (by_ : Int) * c ≤ 2 ^ 47 ∧ c ≤ maxLen then newG h.length fl ((List.replicate c.toNat z).flatten) (fun n => .sl n 0 l.toNat c.toNat none) else none
      | _, _ => none) = _ at q
    simp only [CO.run]
    split at q
    · rename_i h1 h2
      rw [h1, h2]
      dsimp only
      split at q
      · rename_i h3
        rw [if_pos h3]
        exact newG_ok q
      · cases q
    · cases q
  | app str fl sz b s x =>
    change (if (ev x).isStr = str then appG g h.length fl sz b (ev s) (ev x) else none) = _ at q
    simp only [CO.run]
    split at q
    · rename_i h1
      rw [if_pos h1]
      exact appG_ok hg q
    · cases q
  | cpy str sz d s =>
    change (if (ev s).isStr = str then cpyG g sz (ev d) (ev s) else none) = _ at q
    simp only [CO.run]
    split at q
    · rename_i h1
      rw [if_pos h1]
      exact cpyG_ok hg q
    · cases q
  | apz fl z by_ s n =>
    change (match ev s, ev n with
      | .ns, .i _ m => if m = 0 then some (AV.ns, HE.z) else if 0 < m ∧ m.toNat * by_ ≤ 140737488355328 ∧ m.toNat ≤ maxLen then newG h.length fl ((List.replicate m.toNat z).flatten) (fun k => .sl k 0 m.toNat m.toNat (some z.length)) else none
      | _, _ => none) = _ at q
    simp only [CO.run]
    split at q
    · rename_i h1 h2
      rw [h1, h2]
      dsimp only
      split at q
      · rename_i h3
        cases q
        rw [if_pos h3]
        exact ⟨rfl, trivial⟩
      · rename_i h3
        rw [if_neg h3]
        split at q
        · rename_i h4
          rw [if_pos h4]
          exact newG_ok q
        · cases q
    · cases q
  | b2s x =>
    change (if (ev x).isStr then none else (srcG g 1 (ev x)).bind fun (_, cs) => (bytesOf cs).map fun l => (AV.s l, HE.z)) = _ at q
    simp only [CO.run]
    rw [srcG_eq hg] at q
    split at q
    · cases q
    · rename_i h1
      rw [if_neg h1]
      obtain ⟨⟨m, cs⟩, hs, q⟩ := Option.bind_eq_some_iff.1 q
      obtain ⟨l, hl, q⟩ := Option.map_eq_some_iff.1 q
      cases q
      rw [hs]
      simp only [Option.bind_some]
      rw [hl]
      exact ⟨rfl, trivial⟩
  | clr z x =>
    change (match ev x with
      | .ns => some (AV.tu [], HE.z)
      | .se => some (AV.tu [], HE.z)
      | .sl id off n _ _ => if n = 0 then some (AV.tu [], HE.z) else untG (stG g id off ((List.replicate n z).flatten))
      | _ => none) = _ at q
    simp only [CO.run]
    split at q
    · rename_i h1
      cases q
      rw [h1]
      exact ⟨rfl, trivial⟩
    · rename_i h1
      cases q
      rw [h1]
      exact ⟨rfl, trivial⟩
    · rename_i h1
      rw [h1]
      dsimp only
      split at q
      · rename_i h2
        cases q
        rw [if_pos h2]
        exact ⟨rfl, trivial⟩
      · rename_i h2
        rw [if_neg h2]
        unfold untG at q
        split at q
        · rename_i e' he
          cases q
          obtain ⟨a, b⟩ := stG_ok hg he
          rw [a]
          exact ⟨rfl, b⟩
        · cases q
    · cases q
  | bcmp x y =>
    change ((srcG g 1 (ev x)).bind fun (_, xs) => (srcG g 1 (ev y)).bind fun (_, ys) => (bytesOf xs).bind fun l => (bytesOf ys).map fun m => (AV.i .i64 (Extern.BytealgCompare.cmp ⟨l.toArray⟩ ⟨m.toArray⟩), HE.z)) = _ at q
    rw [srcG_eq hg, srcG_eq hg] at q
    simp only [CO.run]
    obtain ⟨⟨m1, xs⟩, s1, q⟩ := Option.bind_eq_some_iff.1 q
    obtain ⟨⟨m2, ys⟩, s2, q⟩ := Option.bind_eq_some_iff.1 q
    obtain ⟨l, b1, q⟩ := Option.bind_eq_some_iff.1 q
    obtain ⟨m, b2, q⟩ := Option.map_eq_some_iff.1 q
    cases q
    rw [s1]
    simp only [Option.bind_some]
    rw [s2]
    simp only [Option.bind_some]
    rw [b1]
    simp only [Option.bind_some]
    rw [b2]
    exact ⟨rfl, trivial⟩
  | s2b x =>
    change (match ev x with
      | .s l => if l.length ≤ maxLen then some (AV.sl h.length 0 l.length l.length (some 1), HE.new (.blk true false (l.map fun b : UInt8 => .i .u8 (b.toNat : Int)))) else none
      | _ => none) = _ at q
    simp only [CO.run]
    split at q
    · rename_i l h1
      rw [h1]
      dsimp only
      split at q
      · rename_i h2
        cases q
        rw [if_pos h2]
        exact ⟨rfl, trivial⟩
      · cases q
    · cases q
  | rng x =>
    change (match ev x with
      | .s l => some (AV.p h.length 0, HE.new (.iter ⟨l.toArray⟩ 0))
      | _ => none) = _ at q
    simp only [CO.run]
    split at q
    · rename_i l h1
      cases q
      rw [h1]
      exact ⟨rfl, trivial⟩
    · cases q
  | nxt x =>
    change (match ev x with
      | .p id 0 => match g id with
        | some (.iter s pos) => if pos < s.size then some (AV.tu [.b true, .i .i64 (pos : Int), .i .i32 ((Utf8.decode s pos).1 : Int)], HE.put id (.iter s (pos + (Utf8.decode s pos).2))) else some (.tu [.b false], .z)
        | _ => none
      | _ => none) = _ at q
    simp only [CO.run]
    split at q
    · rename_i id h1
      rw [h1]
      split at q
      · rename_i s pos h2
        have hh := iter_of (hg id) h2
        change (match h[id]? with
          | some (.iter s pos) => if pos < s.size then some (AV.tu [.b true, .i .i64 (pos : Int), .i .i32 ((Utf8.decode s pos).1 : Int)], h.set id (.iter s (pos + (Utf8.decode s pos).2))) else some (.tu [.b false], h)
          | _ => none) = _ ∧ _
        rw [hh]
        change (if pos < s.size then some (AV.tu [.b true, .i .i64 (pos : Int), .i .i32 ((Utf8.decode s pos).1 : Int)], h.set id (.iter s (pos + (Utf8.decode s pos).2))) else some (.tu [.b false], h)) = _ ∧ _
        split at q
        · rename_i h3
          cases q
          rw [if_pos h3]
          exact ⟨rfl, _, h2⟩
        · rename_i h3
          cases q
          rw [if_neg h3]
          exact ⟨rfl, trivial⟩
      · cases q
    · cases q
  | s2s x =>
    change (match ev x with
      | .sl id off n c k => if n = 0 then none else match g id with
        | some (.blk fl true xs) => some (AV.sl id off n c k, HE.put id (.blk fl false xs))
        | _ => none
      | _ => none) = _ at q
    simp only [CO.run]
    split at q
    · rename_i id off n c k h1
      rw [h1]
      split at q
      · cases q
      · rename_i h2
        split at q
        · rename_i fl xs h3
          cases q
          refine ⟨?_, _, h3⟩
          change (if n = 0 then none else match h[id]? with
            | some (.blk fl true xs) => some (AV.sl id off n c k, h.set id (.blk fl false xs))
            | _ => none) = _
          rw [if_neg h2, blk_of (hg id) h3]
          rfl
        · cases q
    · cases q
  | bix x y =>
    change (match ev x, ev y with
      | .s l, .i .u8 n => some (AV.i .i64 (match (List.range l.length).find? fun i => (⟨l.toArray⟩ : ByteArray)[i]! == UInt8.ofNat n.toNat with | some i => (i : Int) | none => -1), HE.z)
      | _, _ => none) = _ at q
    simp only [CO.run]
    split at q
    · rename_i l n h1 h2
      cases q
      rw [h1, h2]
      exact ⟨rfl, trivial⟩
    · cases q
  | _ => exact free_ok rfl g h q

/-- Values laid at the places from k on. -/
def setL : List AV → Nat → List AV → List AV
  | [], _, fr => fr
  | a :: l, k, fr => setL l (k + 1) (fr.set k a)
theorem setL_repl (x : AV) : ∀ (l pre : List AV) (m : Nat), l.length ≤ m → setL l pre.length (pre ++ List.replicate m x) = pre ++ l ++ List.replicate (m - l.length) x
  | [], pre, m, _ => by simp [setL]
  | a :: l, pre, m, h => by
    obtain ⟨m', rfl⟩ : ∃ m', m = m' + 1 := ⟨m - 1, by simp at h; omega⟩
    have h1 : (pre ++ List.replicate (m' + 1) x).set pre.length a = (pre ++ [a]) ++ List.replicate m' x := by
      rw [List.set_append_right _ _ (Nat.le_refl _), Nat.sub_self, List.replicate_succ]
      simp
    have h2 := setL_repl x l (pre ++ [a]) m' (by simpa using h)
    simp only [setL]
    rw [h1]
    simp only [List.length_append, List.length_singleton] at h2
    rw [h2]
    simp
theorem FRel.args : ∀ (l : List AV) (k : Nat) {F : FR} {fr : List AV}, FRel F fr → FRel (argsT l k F) (setL l k fr)
  | [], _, _, _, h => h
  | a :: l, k, _, _, h => FRel.args l (k + 1) (h.put (some k) a)
theorem FRel.enter (l : List AV) (n : Nat) (h : l.length ≤ n) : FRel (argsT l 0 (FR.full n)) (l ++ List.replicate (n - l.length) (.tu [])) := by
  have := FRel.args l 0 (FRel.full n)
  have e := setL_repl (.tu []) l [] n h
  simp only [List.length_nil, List.nil_append] at e
  rw [e] at this
  exact this
theorem FRel.ps : ∀ (ps : List Nat) (as : List AV) {F : FR} {fr : List AV}, FRel F fr → FRel (psT ps as F) (setPs ps as fr)
  | [], as, F, fr, h => by
    cases as <;> exact h
  | p :: ps, [], F, fr, h => h
  | p :: ps, a :: as, F, fr, h => FRel.ps ps as (h.put (some p) a)
section
variable {P : Program}
/-- The tree's run of a function, or of a round, is sound. -/
structure SoundX (P : Program) (E : RunT) : Prop where
  fn : ∀ (g : Nat) (fn : Func) (cf : CF) (F : FR) (fr : List AV) (H : HP) (h : List AB) (v : AV) (H' : HP), P.funcs[g]? = some fn → compF P fn = some cf → FRel F fr → HRel H h → E (.fn cf) F H = some (v, H') →
    ∃ h', HRel H' h' ∧ AM P h.length none g [.code cf.body] fr h (fun a h'' => a = v ∧ h'' = h')
  rd : ∀ (id : Nat) (asg bd : CC) (F : FR) (fr : List AV) (H : HP) (h : List AB) (v : AV) (H' : HP), FRel F fr → HRel H h → E (.rd id asg bd) F H = some (v, H') →
    ∃ h', HRel H' h' ∧ ∀ g, AM P h.length (some id) g [.code asg, .br, .code bd] fr h (fun a h'' => a = v ∧ h'' = h')
/-- A function that is told by what it does: such a call comes to just that. -/
def NvOk (P : Program) (g : Nat) (f : List AV → GT → Nat → Option (AV × HE)) : Prop :=
  ∀ (args : List AV) (gt : GT) (h : List AB) (v : AV) (e : HE), (∀ id, blkO (gt id) = blkO (h[id]?)) → f args gt h.length = some (v, e) → FnC P g args h v (appL h e) ∧ e.fits gt
def TC.Ok (P : Program) (g : Nat) : TC → Prop
  | .cf x => ∃ fn, P.funcs[g]? = some fn ∧ compF P fn = some x
  | .nv x => NvOk P g x
def SoundN (P : Program) (T : TB) : Prop := ∀ g c, T g = some c → c.Ok P g
theorem evT_eq {F : FR} {frx : List AV} (x : Opd) (h : ∀ t ∈ x.tmps, F.t.get t = nthA frx t) : Opd.evT F x = Opd.ev frx x := by
  cases x with
  | t n =>
    have := h n (by simp [Opd.tmps])
    simp only [Opd.evT, Opd.ev]
    rw [this, nthA_eq]
  | c v => rfl
/-- What an operation on trees did: the abstract machine's, at every frame that agrees where it looks. -/
def Did (P : Program) (c : COper) (F : FR) (h : List AB) (v : AV) (h' : List AB) : Prop :=
  ∀ frx : List AV, (∀ t ∈ c.op.tmps, F.t.get t = nthA frx t) → guardF frx c.guard = some true → ∀ (ops : Array Oper) (i : Nat) (o : Oper), ops[i]? = some o → compO P ops o = some c → OpOk P ops i c.dst frx h v h'
theorem isCall_none {op : CO} (h : op.isCall = none) : ∀ f a, op ≠ .call f a := fun f a e => by
  subst e
  cases h
theorem did_plain {c : COper} (hc : c.op.isCall = none) {F : FR} {h h' : List AB} {v : AV} (q : c.op.run (Opd.evT F) h = some (v, h')) : Did P c F h v h' := by
  intro frx hx hg ops i o ho hco
  obtain ⟨hk, hw⟩ := guardF_some hg
  refine op_plain ho hco hk hw ?_
  rw [← q]
  refine run_congr h c.op (ev := Opd.ev frx) (ev' := Opd.evT F) (fun v => rfl) fun t ht => ?_
  have := hx t ht
  simp only [Opd.evT, Opd.ev]
  rw [this, nthA_eq]
theorem callT_ok {T : TB} {E : RunT} (hT : SoundN P T) (hE : SoundX P E) {F : FR} {H H' : HP} {h : List AB} (hH : HRel H h) {c : COper} {f : Opd} {args : List Opd} (hcc : c.op = .call f args) {v : AV}
    (e : callT T E (Opd.evT F f) (args.map (Opd.evT F)) H = some (v, H')) : ∃ h', HRel H' h' ∧ Did P c F h v h' := by
  have evs : ∀ {frx : List AV}, (∀ t ∈ c.op.tmps, F.t.get t = nthA frx t) → Opd.evT F f = Opd.ev frx f ∧ args.map (Opd.evT F) = args.map (Opd.ev frx) := fun {frx} hx => by
    rw [hcc] at hx
    exact ⟨evT_eq f fun t q => hx t (List.mem_append_left _ q), List.map_congr_left fun x hxm => evT_eq x fun t q => hx t (List.mem_append_right _ (List.mem_flatMap.2 ⟨x, hxm, q⟩))⟩
  unfold callT at e
  split at e
  · rename_i g fst cap hf
    split at e
    · rename_i c0 hcf
      cases c0 with
      | cf cf =>
        change (match Nat.ble (fst ++ args.map (Opd.evT F) ++ cap).length cf.ntmps with
          | true => E (.fn cf) (argsT (fst ++ args.map (Opd.evT F) ++ cap) 0 (FR.full cf.ntmps)) H
          | false => none) = _ at e
        split at e
        · rename_i hle
          obtain ⟨fn, h1, h2⟩ := hT _ _ hcf
          have hle' : (fst ++ args.map (Opd.evT F) ++ cap).length ≤ cf.ntmps := by simpa using hle
          obtain ⟨h', r1, r2⟩ := hE.fn g fn cf _ _ _ _ _ _ h1 h2 (FRel.enter _ _ hle') hH e
          refine ⟨h', r1, fun frx hx hg ops i o ho hco => ?_⟩
          obtain ⟨e1, e2⟩ := evs hx
          obtain ⟨hk, hw⟩ := guardF_some hg
          rw [e2] at r2
          exact op_call ho hco hk hw hcc (by rw [← e1]; exact hf) h1 h2 r2
        · cases e
      | nv f =>
        change appR H (f (fst ++ args.map (Opd.evT F) ++ cap) H.g H.len) = _ at e
        unfold appR at e
        split at e
        · rename_i v' eff hq
          split at e
          · rename_i H1 hap
            cases e
            rw [hH.len] at hq
            obtain ⟨r1, r2⟩ := (show NvOk P g f from hT _ _ hcf) _ _ h _ _ (HP.g_blk hH) hq
            refine ⟨_, hH.app r2 hap, fun frx hx hg ops i o ho hco => ?_⟩
            obtain ⟨e1, e2⟩ := evs hx
            obtain ⟨hk, hw⟩ := guardF_some hg
            rw [e2] at r1
            exact op_callC ho hco hk hw hcc (by rw [← e1]; exact hf) r1
          · cases e
        · cases e
    · cases e
  · rename_i id hf
    split at e
    · rename_i st pd F0 ps asg bd hlp
      obtain ⟨B, hB, fr0, hF0, rfl⟩ := hH.here hlp
      split at e
      · rename_i hps
        obtain ⟨h', r1, r2⟩ := hE.rd id asg bd _ _ _ _ _ _ (FRel.ps ps _ hF0) hH e
        refine ⟨h', r1, fun frx hx hg ops i o ho hco => ?_⟩
        obtain ⟨e1, e2⟩ := evs hx
        obtain ⟨hk, hw⟩ := guardF_some hg
        rw [e2] at r2
        exact op_yield ho hco hk hw hcc (by rw [← e1]; exact hf) hB (by have := Nat.eq_of_beq_eq_true hps; simpa using this) r2
      · cases e
    · cases e
  · cases e
theorem isCall_some {op : CO} {f : Opd} {args : List Opd} (h : op.isCall = some (f, args)) : op = .call f args := by
  cases op <;> first | (cases h; done) | (simp only [CO.isCall, Option.some.injEq, Prod.mk.injEq] at h; rw [h.1, h.2])
theorem opT_ok {T : TB} {E : RunT} (hT : SoundN P T) (hE : SoundX P E) {F : FR} {H H' : HP} {h : List AB} (hH : HRel H h) {c : COper} {v : AV} (e : opT T E F H c.op = some (v, H')) : ∃ h', HRel H' h' ∧ Did P c F h v h' := by
  unfold opT at e
  split at e
  · rename_i f args hcc
    exact callT_ok hT hE hH (isCall_some hcc) e
  · rename_i hcc
    unfold appR at e
    split at e
    · rename_i v' eff hq
      split at e
      · rename_i H1 hap
        cases e
        rw [hH.len] at hq
        obtain ⟨a, b⟩ := opE_ok c.op hcc (HP.g_blk hH) hq
        exact ⟨_, hH.app b hap, did_plain hcc a⟩
      · cases e
    · cases e
theorem guardT_eq {F : FR} {frx : List AV} (g : Option (Nat × Bool)) (h : ∀ t w, g = some (t, w) → F.t.get t = nthA frx t) : guardT F g = guardF frx g := by
  cases g with
  | none => rfl
  | some p =>
    obtain ⟨t, w⟩ := p
    simp only [guardT, guardF]
    rw [h t w rfl]
    rfl
theorem runRegT_all {T : TB} {E : RunT} (hT : SoundN P T) (hE : SoundX P E) : ∀ (l : List COper) {F F' : FR} {H H' : HP} {fr : List AV} {h : List AB}, FRel F fr → HRel H h → runRegT T E l F H = some (F', H') →
    ∃ fr' h', FRel F' fr' ∧ HRel H' h' ∧ ∀ (p : Nat) (rd : Option Nat) (fn : FuncId) (k : List CI) (R : AV → List AB → Prop), AM P p rd fn k fr' h' R → AM P p rd fn (.ops l :: k) fr h R
  | [], F, F', H, H', fr, h, hF, hH, e => by
    cases e
    exact ⟨fr, h, hF, hH, fun p rd fn k R g => AM.go rfl g⟩
  | c :: l, F, F', H, H', fr, h, hF, hH, e => by
    change regStepT T E c (runRegT T E l) F H = some (F', H') at e
    unfold regStepT at e
    rw [guardT_eq c.guard (fun t w _ => hF.get t)] at e
    split at e
    · cases e
    · rename_i b hb
      cases b with
      | true =>
        simp only [regRunT] at e
        split at e
        · cases e
        · rename_i v H1 h2
          obtain ⟨h1, r1, r2⟩ := opT_ok hT hE hH h2
          obtain ⟨fr', h', q1, q2, q3⟩ := runRegT_all hT hE l (hF.put c.dst v) r1 e
          exact ⟨fr', h', q1, q2, fun p rd fn k R g => AM.op (fun ops i o ho hc => r2 fr (fun t _ => hF.get t) hb ops i o ho hc) (q3 p rd fn k R g)⟩
      | false =>
        simp only at e
        obtain ⟨fr', h', q1, q2, q3⟩ := runRegT_all hT hE l (hF.put c.dst (.tu [])) hH e
        exact ⟨fr', h', q1, q2, fun p rd fn k R g => AM.op (fun ops i o ho hc => opF_skip ho hc h hb) (q3 p rd fn k R g)⟩
end
end Go.Proofs.Ytbcpcjofkfgjoaa
