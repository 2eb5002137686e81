/- The abstract machine as a whole: regions (those that draw their order too), loops, calls. -/
import Derived.Test.YtbcpcjofkfgjoaaEvS
namespace Go.Proofs.Ytbcpcjofkfgjoaa
open Go.RowKit

/-- What is run: a function, or a round of a loop. -/
inductive Job where
  | fn (cf : CF)
  | rd (id : Nat) (asg bd : CC)
abbrev RunF := Job → List AV → List AB → Option (AV × List AB)
noncomputable def lenA (l : List AV) : Nat := List.rec (motive := fun _ => Nat) 0 (fun _ _ n => n + 1) l
noncomputable def callF (T : Nat → Option CF) (E : RunF) (f : AV) (args : List AV) (h : List AB) : Option (AV × List AB) :=
  match f with
  | .f (.func g) fst cap => match T g with
    | some cf => E (.fn cf) (fst ++ args ++ cap ++ List.replicate (cf.ntmps - (fst ++ args ++ cap).length) (.tu [])) h
    | none => none
  | .y id => match getB h id with
    | some (.lp _ _ fr0 ps asg bd) => if Nat.beq ps.length args.length then E (.rd id asg bd) (setPs ps args fr0) h else none
    | _ => none
  | _ => none
noncomputable def opF (T : Nat → Option CF) (E : RunF) (ev : Opd → AV) (h : List AB) (op : CO) : Option (AV × List AB) :=
  match op with
  | .call f args => callF T E (ev f) (args.map ev) h
  | op => op.runF ev h
/-- Is a guarded operation wanted? none: not known. -/
noncomputable def guardF (fr : List AV) : Option (Nat × Bool) → Option Bool
  | none => some true
  | some (t, w) => match nthA fr t with
    | .b x => some (x == w)
    | .top => none
    | _ => some false
noncomputable def putF (fr : List AV) (d : Option Nat) (v : AV) : List AV :=
  match d with
  | some d => setA fr d v
  | none => fr
/-- Operations, one behind the other. -/
noncomputable def regRun (T : Nat → Option CF) (E : RunF) (o : COper) (ih : List AV → List AB → Option (List AV × List AB)) (fr : List AV) (h : List AB) : Option (List AV × List AB) :=
  match opF T E (Opd.evF fr) h o.op with
  | none => none
  | some (v, h') => ih (putF fr o.dst v) h'
noncomputable def regStep (T : Nat → Option CF) (E : RunF) (o : COper) (ih : List AV → List AB → Option (List AV × List AB)) (fr : List AV) (h : List AB) : Option (List AV × List AB) :=
  match guardF fr o.guard with
  | none => none
  | some b => match b with
    | true => regRun T E o ih fr h
    | false => ih (putF fr o.dst (.tu [])) h
noncomputable def runReg (T : Nat → Option CF) (E : RunF) (l : List COper) : List AV → List AB → Option (List AV × List AB) :=
  List.rec (motive := fun _ => List AV → List AB → Option (List AV × List AB)) (fun fr h => some (fr, h)) (fun o _ ih => regStep T E o ih) l

/-- What an operation did to memory: blocks lo to hi are its own; those of ws it may have written, those of rs it has read. -/
structure Pt where
  k : Nat
  lo : Nat
  hi : Nat
  rs : List Nat
  ws : List Nat
def maskB (rs ws : List Nat) : Nat → List AB → List AB
  | _, [] => []
  | i, B :: l => (if memN i ws then B else if memN i rs then B.freeze else .dead) :: maskB rs ws (i + 1) l
noncomputable def mergeB (ws : List Nat) (G : List AB) : Nat → List AB → List AB
  | i, [] => G.drop i
  | i, B :: l => (if memN i ws then (getB G i).getD .dead else B) :: mergeB ws G (i + 1) l
/-- How an operation stands to memory. -/
inductive MK where
  | free
  | ld (x : Opd)
  | call (f : Opd) (args : List Opd)
  | mem
def CO.mk : CO → MK
  | .ld _ x => .ld x
  | .call f args => .call f args
  | .b2s _ | .new _ _ | .box _ _ _ | .bls _ _ _ _ | .mks _ _ _ _ _ | .apz _ _ _ _ _ | .st _ _ _ | .app _ _ _ _ _ _ | .cpy _ _ _ _ | .clr _ _ | .bcmp _ _ | .s2b _ | .rng _ | .nxt _ | .s2s _ => .mem
  | _ => .free
def idOf : AV → List Nat
  | .p id _ => [id]
  | .sl id _ _ _ _ => [id]
  | _ => []
/-- What an operation reads, and what it may write. -/
def foot (ev : Opd → AV) : CO → List Nat × List Nat
  | .b2s x => (idOf (ev x), [])
  | .st _ x _ => ([], idOf (ev x))
  | .app _ _ _ _ s x => (idOf (ev x), idOf (ev s))
  | .cpy _ _ d s => (idOf (ev s), idOf (ev d))
  | .clr _ x => ([], idOf (ev x))
  | .bcmp x y => (idOf (ev x) ++ idOf (ev y), [])
  | .nxt x => ([], idOf (ev x))
  | .s2s x => ([], idOf (ev x))
  | _ => ([], [])
def ptHas (p : Pt) (id : Nat) : Bool := memN id p.ws || (Nat.ble p.lo id && Nat.blt id p.hi)
def indepP (anc : Nat) (rs ws : List Nat) (p : Pt) : Bool :=
  if bit p.k anc then true else (rs ++ ws).all (fun id => !ptHas p id) && ws.all (fun id => !memN id (p.rs ++ p.ws))
def qOk (len0 lo hi : Nat) (anc : Nat) (past : List Pt) (id : Nat) : Bool :=
  Nat.blt id len0 || (Nat.ble lo id && Nat.blt id hi) || past.any fun p => bit p.k anc && Nat.ble p.lo id && Nat.blt id p.hi
def okIn (lo : Nat) (id : Nat) : Bool := Nat.blt id lo
def okV (q : Nat → Bool) (v : AV) : Bool :=
  match v with
  | .i _ _ => true
  | .b _ => true
  | v => v.ok q
/-- Are all values that the operation looks at among the blocks below lo? -/
noncomputable def usOk (lo : Nat) (fr : List AV) (l : List Nat) : Bool := l.all fun t => okV (okIn lo) (nthA fr t)
/-- An operation is run under a mask. -/
noncomputable def att (T : Nat → Option CF) (E : RunF) (len0 k : Nat) (anc : Nat) (past : List Pt) (fr : List AV) (h : List AB) (op : CO) (rs ws : List Nat) : Option (AV × List AB × List Pt) :=
  if usOk h.length fr op.tmps && ((rs ++ ws).all fun id => match getB h id with | some B => B.ok (okIn h.length) | none => false) && past.all (indepP anc rs ws) then
    match opF T E (Opd.evF fr) (maskB rs ws 0 h) op with
    | none => none
    | some (v, G) =>
      if okV (qOk len0 h.length G.length anc past) v && Nat.ble h.length G.length && (ws.all fun id => ((getB G id).getD .dead).ok (qOk len0 h.length G.length anc past)) && ((G.drop h.length).all fun B => B.ok (qOk len0 h.length G.length anc past))
        then some (v, mergeB ws G 0 h, ⟨k, h.length, G.length, rs, ws⟩ :: past) else none
  else none
noncomputable def attC (T : Nat → Option CF) (E : RunF) (len0 k : Nat) (anc : Nat) (past : List Pt) (fr : List AV) (h : List AB) (op : CO) (R : List Nat) : Option (AV × List AB × List Pt) :=
  match att T E len0 k anc past fr h op R [] with
  | some x => some x
  | none => att T E len0 k anc past fr h op [] R
noncomputable def attFree (len0 : Nat) (anc : Nat) (past : List Pt) (fr : List AV) (h : List AB) (op : CO) : Option (AV × List AB × List Pt) :=
  match op.runF (Opd.evF fr) h with
  | none => none
  | some (v, _) => if okV (qOk len0 0 0 anc past) v then some (v, h, past) else none
noncomputable def attLd (len0 k : Nat) (anc : Nat) (past : List Pt) (fr : List AV) (h : List AB) (op : CO) (rs : List Nat) : Option (AV × List AB × List Pt) :=
  if past.all (indepP anc rs []) then
    match op.runF (Opd.evF fr) h with
    | none => none
    | some (v, _) => if okV (qOk len0 0 0 anc past) v then some (v, h, ⟨k, 0, 0, rs, []⟩ :: past) else none
  else none
noncomputable def attO (T : Nat → Option CF) (E : RunF) (len0 k : Nat) (anc : Nat) (past : List Pt) (fr : List AV) (h : List AB) (op : CO) : Option (AV × List AB × List Pt) :=
  match op.mk with
  | .free => attFree len0 anc past fr h op
  | .ld x => attLd len0 k anc past fr h op (idOf (Opd.evF fr x))
  | .call f args => attC T E len0 k anc past fr h op (reach h 10000 ((Opd.evF fr f).ids ++ idsL (args.map (Opd.evF fr))) [])
  | .mem => att T E len0 k anc past fr h op (foot (Opd.evF fr) op).1 (foot (Opd.evF fr) op).2
abbrev OutD := Nat → List Pt → List AV → List AB → Option (List AV × List AB)
noncomputable def drawRun (T : Nat → Option CF) (E : RunF) (len0 : Nat) (d : DOp) (ih : OutD) (k : Nat) (past : List Pt) (fr : List AV) (h : List AB) : Option (List AV × List AB) :=
  match attO T E len0 k d.anc past fr h d.o.op with
  | none => none
  | some (v, h', past') => ih (k + 1) past' (putF fr d.o.dst v) h'
noncomputable def drawStep (T : Nat → Option CF) (E : RunF) (len0 : Nat) (d : DOp) (ih : OutD) (k : Nat) (past : List Pt) (fr : List AV) (h : List AB) : Option (List AV × List AB) :=
  match guardF fr d.o.guard with
  | none => none
  | some b => match b with
    | true => drawRun T E len0 d ih k past fr h
    | false => ih (k + 1) past (putF fr d.o.dst (.tu [])) h
noncomputable def drawn (T : Nat → Option CF) (E : RunF) (len0 : Nat) (l : List DOp) : OutD :=
  List.rec (motive := fun _ => OutD) (fun _ _ fr h => some (fr, h)) (fun d _ ih => drawStep T E len0 d ih) l

abbrev OutC := Option (XE × List AV × List AB)
def outN (r : Option (List AV × List AB)) : OutC :=
  match r with
  | some (fr, h) => some (.n, fr, h)
  | none => none
noncomputable def eSeq (ia ib : List AV → List AB → OutC) (fr : List AV) (h : List AB) : OutC :=
  match ia fr h with
  | none => none
  | some (x, fr', h') => match x with
    | .n => ib fr' h'
    | .x id => some (.x id, fr', h')
    | .r => some (.r, fr', h')
noncomputable def eCond (q : Opd) (ia ib : List AV → List AB → OutC) (fr : List AV) (h : List AB) : OutC :=
  match q.evF fr with
  | .b t => match t with
    | true => ia fr h
    | false => ib fr h
  | _ => none
noncomputable def eBlock (id : Nat) (ia : List AV → List AB → OutC) (fr : List AV) (h : List AB) : OutC :=
  match ia fr h with
  | none => none
  | some (x, fr', h') => match x with
    | .n => some (.n, fr', h')
    | .x id' => if Nat.beq id id' then some (.n, fr', h') else some (.x id', fr', h')
    | .r => some (.r, fr', h')
noncomputable def eLoop (ia : List AV → List AB → OutC) (n : Nat) : List AV → List AB → OutC :=
  Nat.rec (motive := fun _ => List AV → List AB → OutC) (fun _ _ => none) (fun _ ih fr h => match ia fr h with
    | none => none
    | some (x, fr', h') => match x with
      | .n => ih fr' h'
      | .x id => some (.x id, fr', h')
      | .r => some (.r, fr', h')) n
/-- A range over a function. -/
noncomputable def eRf (T : Nat → Option CF) (E : RunF) (q : Opd) (ps : List Nat) (asg bd : CC) (fr : List AV) (h : List AB) : OutC :=
  match (match q.evF fr with
    | .f f fst cap => callF T E (.f f fst cap) [AV.y h.length] (h ++ [AB.lp .ready .n fr ps asg bd])
    | _ => none) with
  | none => none
  | some (_, h2) => match getB h2 h.length with
    | some (.lp st pd _ _ _ _) => match st with
      | .busy => none
      | _ => some (pd, fr, setB h2 h.length .dead)
    | _ => none
noncomputable def evC (T : Nat → Option CF) (E : RunF) (rd : Bool) (c : CC) : List AV → List AB → OutC :=
  CC.rec (motive := fun _ => List AV → List AB → OutC) (fun fr h => some (.n, fr, h)) (fun _ ops fr h => outN (runReg T E ops fr h)) (fun _ ops fr h => outN (drawn T E h.length ops 0 [] fr h))
    (fun _ _ ia ib fr h => eSeq ia ib fr h) (fun q _ _ ia ib fr h => eCond q ia ib fr h) (fun id _ ia fr h => eBlock id ia fr h) (fun _ ia fr h => eLoop ia 100000 fr h) (fun _ ia fr h => ia fr h)
    (fun id fr h => some (.x id, fr, h)) (fun fr h => some (.r, fr, h)) (fun _ _ => none) (fun q ps a b _ _ fr h => match rd with | true => none | false => eRf T E q ps a b fr h) c
def finF (cf : CF) (r : OutC) : Option (AV × List AB) :=
  match r with
  | none => none
  | some (x, fr, h) => match x with
    | .x _ => none
    | .n => match resV fr h cf.res with
      | some v => some (v, h)
      | none => none
    | .r => match resV fr h cf.res with
      | some v => some (v, h)
      | none => none
noncomputable def rdFin (id : Nat) (r : OutC) : Option (AV × List AB) :=
  match r with
  | none => none
  | some (x, _, h) => match getB h id with
    | some (.lp _ _ fr0 ps asg bd) => match x with
      | .n => some (.b true, setB h id (.lp .ready .n fr0 ps asg bd))
      | .x k => some (.b false, setB h id (.lp .done (.x k) fr0 ps asg bd))
      | .r => some (.b false, setB h id (.lp .done .r fr0 ps asg bd))
    | _ => none
noncomputable def rdRun (T : Nat → Option CF) (E : RunF) (id : Nat) (asg bd : CC) (fr : List AV) (h : List AB) : Option (AV × List AB) :=
  match evC T E true asg fr h with
  | some (.n, fr1, h1) => match getB h1 id with
    | some (.lp .ready pd fr0 ps a b) => rdFin id (evC T E true bd fr1 (setB h1 id (.lp .busy pd fr0 ps a b)))
    | _ => none
  | _ => none
noncomputable def evF (T : Nat → Option CF) (n : Nat) : RunF :=
  Nat.rec (motive := fun _ => RunF) (fun _ _ _ => none) (fun _ ih j fr h => match j with
    | .fn cf => finF cf (evC T ih false cf.body fr h)
    | .rd id asg bd => rdRun T ih id asg bd fr h) n
end Go.Proofs.Ytbcpcjofkfgjoaa
