/- The operations once more, for speed: each of its own function, lists read by their recursors. -/
import Derived.Test.YtbcpcjofkfgjoaaEvR
namespace Go.Proofs.Ytbcpcjofkfgjoaa
open Go.RowKit

noncomputable def nthA (l : List AV) : Nat → AV := List.rec (motive := fun _ => Nat → AV) (fun _ => .tu []) (fun a _ ih n => Nat.rec (motive := fun _ => AV) a (fun m _ => ih m) n) l
noncomputable def nthO (l : List AV) : Nat → Option AV := List.rec (motive := fun _ => Nat → Option AV) (fun _ => none) (fun a _ ih n => Nat.rec (motive := fun _ => Option AV) (some a) (fun m _ => ih m) n) l
noncomputable def setA (l : List AV) : Nat → AV → List AV := List.rec (motive := fun _ => Nat → AV → List AV) (fun _ _ => []) (fun a t ih n v => Nat.rec (motive := fun _ => List AV) (v :: t) (fun m _ => a :: ih m v) n) l
noncomputable def getB (l : List AB) : Nat → Option AB := List.rec (motive := fun _ => Nat → Option AB) (fun _ => none) (fun a _ ih n => Nat.rec (motive := fun _ => Option AB) (some a) (fun m _ => ih m) n) l
noncomputable def setB (l : List AB) : Nat → AB → List AB := List.rec (motive := fun _ => Nat → AB → List AB) (fun _ _ => []) (fun a t ih n v => Nat.rec (motive := fun _ => List AB) (v :: t) (fun m _ => a :: ih m v) n) l
theorem nthA_eq : ∀ (l : List AV) (n : Nat), nthA l n = l.getD n (.tu [])
  | [], _ => by simp [nthA]
  | _ :: _, 0 => rfl
  | _ :: l, n + 1 => by
    have := nthA_eq l n
    simpa [nthA] using this
theorem nthO_eq : ∀ (l : List AV) (n : Nat), nthO l n = l[n]?
  | [], _ => by simp [nthO]
  | _ :: _, 0 => rfl
  | _ :: l, n + 1 => by
    have := nthO_eq l n
    simpa [nthO] using this
theorem getB_eq : ∀ (l : List AB) (n : Nat), getB l n = l[n]?
  | [], _ => by simp [getB]
  | _ :: _, 0 => rfl
  | _ :: l, n + 1 => by
    have := getB_eq l n
    simpa [getB] using this
theorem setA_eq : ∀ (l : List AV) (n : Nat) (v : AV), setA l n v = l.set n v
  | [], _, _ => by simp [setA]
  | _ :: _, 0, _ => rfl
  | a :: l, n + 1, v => by
    have := setA_eq l n v
    simpa [setA] using this
theorem setB_eq : ∀ (l : List AB) (n : Nat) (v : AB), setB l n v = l.set n v
  | [], _, _ => by simp [setB]
  | _ :: _, 0, _ => rfl
  | a :: l, n + 1, v => by
    have := setB_eq l n v
    simpa [setB] using this
noncomputable def Opd.evF (fr : List AV) : Opd → AV
  | .t n => nthA fr n
  | .c v => v
theorem evF_eq (fr : List AV) : Opd.evF fr = Opd.ev fr := funext fun x => by
  cases x with
  | t n => exact nthA_eq fr n
  | c v => rfl
noncomputable def rdBlkF (h : List AB) (id : Nat) : Option (List AV) :=
  match getB h id with
  | some (.blk _ _ xs) => some xs
  | _ => none
theorem rdBlkF_eq (h : List AB) (id : Nat) : rdBlkF h id = rdBlk h id := by
  unfold rdBlkF rdBlk
  rw [getB_eq]
  rfl
noncomputable def ldVF (h : List AB) : Option Nat → AV → Option AV
  | none, .p id off => (rdBlkF h id).bind fun xs => nthO xs off
  | some n, .p id off => (rdBlkF h id).bind fun xs => if off + n ≤ xs.length then some (.ag ((xs.drop off).take n)) else none
  | _, _ => none
theorem ldVF_eq (h : List AB) (n : Option Nat) (x : AV) : ldVF h n x = ldV h n x := by
  unfold ldVF ldV
  simp only [rdBlkF_eq, nthO_eq]
  rfl
noncomputable def stBF (h : List AB) (id off : Nat) (l : List AV) : Option (List AB) :=
  match getB h id with
  | some (.blk fl true xs) => if off + l.length ≤ xs.length ∧ l.all (wrOk fl) = true then some (setB h id (.blk fl true (over xs off l))) else none
  | _ => none
theorem stBF_eq (h : List AB) (id off : Nat) (l : List AV) : stBF h id off l = stB h id off l := by
  unfold stBF stB
  simp only [getB_eq, setB_eq]
  rfl
noncomputable def stVF (h : List AB) : Option Nat → AV → AV → Option (List AB)
  | none, .p id off, v => if v.one then stBF h id off [v] else none
  | some n, .p id off, .ag l => if l.length = n then stBF h id off l else none
  | _, _, _ => none
theorem stVF_eq (h : List AB) (n : Option Nat) (x y : AV) : stVF h n x y = stV h n x y := by
  unfold stVF stV
  simp only [stBF_eq]
  rfl
noncomputable def srcVF (h : List AB) (sz : Nat) : AV → Option (Nat × List AV)
  | .ns => some (0, [])
  | .se => some (0, [])
  | .s l => if sz = 1 then some (l.length, l.map fun b => .i .u8 b.toNat) else none
  | .sl id off len _ _ => if len = 0 then some (0, []) else (rdBlkF h id).bind fun xs => if off + len * sz ≤ xs.length then some (len, (xs.drop off).take (len * sz)) else none
  | _ => none
theorem srcVF_eq (h : List AB) (sz : Nat) (x : AV) : srcVF h sz x = srcV h sz x := by
  unfold srcVF srcV
  simp only [rdBlkF_eq]
  rfl
noncomputable def appVF (h : List AB) (fl : Bool) (sz by_ : Nat) (s x : AV) : Option (AV × List AB) :=
  (srcVF h sz x).bind fun (m, ys) =>
    if ys.all (wrOk fl) = true then
      match s with
      | .ns => if m = 0 then some (.ns, h) else if m * by_ ≤ 140737488355328 ∧ m ≤ maxLen then some (.sl h.length 0 m m (some sz), h ++ [.blk fl true ys]) else none
      | .sl id off len cap k =>
        if m = 0 then some (.sl id off len cap k, h)
        else if len + m ≤ cap then (stBF h id (off + len * sz) ys).map fun h' => (.sl id off (len + m) cap k, h')
        else match getB h id with
          | some (.blk fl' mu xs) =>
            if fl' = fl ∧ off + len * sz ≤ xs.length ∧ (len + m) * by_ ≤ 140737488355328 ∧ len + m ≤ maxLen then
              if k = none then some (.sl h.length 0 (len + m) (len + m) (some sz), h ++ [.blk fl true ((xs.drop off).take (len * sz) ++ ys)])
              else if k = some sz ∧ sz ≠ 0 ∧ mu = true ∧ off + len * sz = xs.length then some (.sl h.length 0 (len + m) (len + m) (some sz), (setB h id .dead) ++ [.blk fl true (xs.drop off ++ ys)])
              else if k = some sz ∧ sz ≠ 0 ∧ mu = true then some (.sl h.length 0 (len + m) (len + m) (some sz), (setB h id .dead) ++ [.blk fl true ((xs.drop off).take (len * sz) ++ ys)])
              else none
            else none
          | _ => none
      | _ => none
    else none
theorem appVF_eq (h : List AB) (fl : Bool) (sz by_ : Nat) (s x : AV) : appVF h fl sz by_ s x = appV h fl sz by_ s x := by
  unfold appVF appV
  simp only [srcVF_eq, stBF_eq, getB_eq, setB_eq]
  rfl
noncomputable def cpyVF (h : List AB) (sz : Nat) (d s : AV) : Option (AV × List AB) :=
  (srcVF h sz s).bind fun (m, ys) =>
    match d with
    | .sl id off len _ _ => if m ≤ len then (stBF h id off ys).map fun h' => (.i .i64 m, h') else none
    | _ => none
theorem cpyVF_eq (h : List AB) (sz : Nat) (d s : AV) : cpyVF h sz d s = cpyV h sz d s := by
  unfold cpyVF cpyV
  simp only [srcVF_eq, stBF_eq]
  rfl
noncomputable def r_mv (ev : Opd → AV) (h : List AB) (x : Opd) : Option (AV × List AB) :=
  some (ev x, h)
noncomputable def r_pick (ev : Opd → AV) (h : List AB) (c a b : Opd) : Option (AV × List AB) :=
  match ev c with
    | .b t => some (if t then ev a else ev b, h)
    | _ => none
noncomputable def r_bin (ev : Opd → AV) (h : List AB) (op : BinOp) (x y : Opd) : Option (AV × List AB) :=
  (binV op (ev x) (ev y)).map (·, h)
noncomputable def r_eqb (ev : Opd → AV) (h : List AB) (neg : Bool) (x y : Opd) : Option (AV × List AB) :=
  match ev x, ev y with
    | .b p, .b q => some (.b ((p == q) ^^ neg), h)
    | _, _ => none
noncomputable def r_eqc (ev : Opd → AV) (h : List AB) (ks : List CK) (neg : Bool) (x y : Opd) : Option (AV × List AB) :=
  match ev x, ev y with
    | .ag l, .ag l' => (eqCells ks l l').map fun r => (.b (r ^^ neg), h)
    | _, _ => none
noncomputable def r_eqn (ev : Opd → AV) (h : List AB) (neg : Bool) (x y : Opd) : Option (AV × List AB) :=
  (eqNil (ev x) (ev y)).map fun r => (.b (r ^^ neg), h)
noncomputable def r_un (ev : Opd → AV) (h : List AB) (op : UnOp) (x : Opd) : Option (AV × List AB) :=
  (unV op (ev x)).map (·, h)
noncomputable def r_cvi (ev : Opd → AV) (h : List AB) (k : IntKind) (x : Opd) : Option (AV × List AB) :=
  (ev x).int?.map fun n => (.i k (k.wrap n), h)
noncomputable def r_cvs (ev : Opd → AV) (h : List AB) (x : Opd) : Option (AV × List AB) :=
  match ev x with
    | .s l => some (.s l, h)
    | _ => none
noncomputable def r_fad (ev : Opd → AV) (h : List AB) (off : Nat) (x : Opd) : Option (AV × List AB) :=
  match ev x with
    | .p id o => some (.p id (o + off), h)
    | _ => none
noncomputable def r_fld (ev : Opd → AV) (h : List AB) (off : Nat) (sz : Option Nat) (x : Opd) : Option (AV × List AB) :=
  match ev x with
    | .ag l => match sz with
      | none => (l[off]?).map (·, h)
      | some n => some (.ag ((l.drop off).take n), h)
    | _ => none
noncomputable def r_iad (ev : Opd → AV) (h : List AB) (sz : Nat) (x i : Opd) : Option (AV × List AB) :=
  match ev x, ev i with
    | .sl id off k _ _, .i _ n => if 0 ≤ n ∧ n < k then some (.p id (off + n.toNat * sz), h) else none
    | _, _ => none
noncomputable def r_iaa (ev : Opd → AV) (h : List AB) (k sz : Nat) (x i : Opd) : Option (AV × List AB) :=
  match ev x, ev i with
    | .p id off, .i _ n => if 0 ≤ n ∧ n < k then some (.p id (off + n.toNat * sz), h) else none
    | _, _ => none
noncomputable def r_ixs (ev : Opd → AV) (h : List AB) (x i : Opd) : Option (AV × List AB) :=
  match ev x, ev i with
    | .s l, .i _ n => if 0 ≤ n then (l[n.toNat]?).map fun b => (.i .u8 b.toNat, h) else none
    | _, _ => none
noncomputable def r_ixa (ev : Opd → AV) (h : List AB) (k sz : Nat) (agg : Bool) (x i : Opd) : Option (AV × List AB) :=
  match ev x, ev i with
    | .ag l, .i _ n => if 0 ≤ n ∧ n < k then (if agg then some (.ag ((l.drop (n.toNat * sz)).take sz), h) else (l[n.toNat * sz]?).map (·, h)) else none
    | _, _ => none
noncomputable def r_sls (ev : Opd → AV) (h : List AB) (x : Opd) (lo hi : Option Opd) : Option (AV × List AB) :=
  match ev x with
    | .s l => (slS l (lo.map ev) (hi.map ev)).map (·, h)
    | _ => none
noncomputable def r_sll (ev : Opd → AV) (h : List AB) (sz : Nat) (x : Opd) (lo hi mx : Option Opd) : Option (AV × List AB) :=
  (slL sz (ev x) (lo.map ev) (hi.map ev) (mx.map ev)).map (·, h)
noncomputable def r_sla (ev : Opd → AV) (h : List AB) (n sz : Nat) (x : Opd) (lo hi mx : Option Opd) : Option (AV × List AB) :=
  (slA n sz (ev x) (lo.map ev) (hi.map ev) (mx.map ev)).map (·, h)
noncomputable def r_ifc (ev : Opd → AV) (h : List AB) (t : TypeId) (x : Opd) : Option (AV × List AB) :=
  some (.ifc t (ev x), h)
noncomputable def r_mkf (ev : Opd → AV) (h : List AB) (fn : Fn) (fst cap : List Opd) : Option (AV × List AB) :=
  some (.f fn (fst.map ev) (cap.map ev), h)
noncomputable def r_ext (ev : Opd → AV) (h : List AB) (x : Opd) (i : Nat) : Option (AV × List AB) :=
  match ev x with
    | .tu l => (l[i]?).map (·, h)
    | _ => none
noncomputable def r_len (ev : Opd → AV) (h : List AB) (str : Bool) (x : Opd) : Option (AV × List AB) :=
  if (ev x).isStr = str then (lenV (ev x)).map fun n => (.i .i64 n, h) else none
noncomputable def r_lnc (_ev : Opd → AV) (h : List AB) (n : Nat) : Option (AV × List AB) :=
  some (.i .i64 n, h)
noncomputable def r_mm (ev : Opd → AV) (h : List AB) (mx : Bool) (x y : Opd) : Option (AV × List AB) :=
  (mmV mx (ev x) (ev y)).map (·, h)
noncomputable def r_nck (ev : Opd → AV) (h : List AB) (x : Opd) : Option (AV × List AB) :=
  match ev x with
    | .p id off => some (.p id off, h)
    | .f (.func f) fst cap => some (.f (.func f) fst cap, h)
    | .f (.yield l) fst cap => some (.f (.yield l) fst cap, h)
    | .ifc t v => some (.ifc t v, h)
    | _ => none
noncomputable def r_tas (ev : Opd → AV) (h : List AB) (x : Opd) (t : TypeId) (ok : Bool) (z : AV) : Option (AV × List AB) :=
  match ev x with
    | .ifc t' v => if t' = t then some (if ok then .tu [v, .b true] else v, h) else if ok then some (.tu [z, .b false], h) else none
    | .ni => if ok then some (.tu [z, .b false], h) else none
    | _ => none
noncomputable def r_ld (ev : Opd → AV) (h : List AB) (n : Option Nat) (x : Opd) : Option (AV × List AB) :=
  (ldVF h n (ev x)).map (·, h)
noncomputable def r_st (ev : Opd → AV) (h : List AB) (n : Option Nat) (x v : Opd) : Option (AV × List AB) :=
  (stVF h n (ev x) (ev v)).map (.tu [], ·)
noncomputable def r_new (_ev : Opd → AV) (h : List AB) (fl : Bool) (zs : List AV) : Option (AV × List AB) :=
  newB h fl zs (fun n => .p n 0)
noncomputable def r_box (ev : Opd → AV) (h : List AB) (fl : Bool) (n : Nat) (x : Opd) : Option (AV × List AB) :=
  if (ev x).cells.length = n then newB h fl (ev x).cells (fun n => .p n 0) else none
noncomputable def r_bld (ev : Opd → AV) (h : List AB) (zs : List AV) (ps : List (Nat × Nat × Opd)) : Option (AV × List AB) :=
  (fillV ev zs ps).map fun cs => (.ag cs, h)
noncomputable def r_bls (ev : Opd → AV) (h : List AB) (fl : Bool) (k : Nat) (zs : List AV) (ps : List (Nat × Nat × Opd)) : Option (AV × List AB) :=
  (fillV ev zs ps).bind fun cs => newB h fl cs (fun n => .sl n 0 k k none)
noncomputable def r_mks (ev : Opd → AV) (h : List AB) (fl : Bool) (z : List AV) (by_ : Nat) (le ca : Opd) : Option (AV × List AB) :=
  match ev le, ev ca with
    | .i _ l, .i _ c => if 0 ≤ l ∧ l ≤ c ∧ (by_ : Int) * c ≤ 2 ^ 47 ∧ c ≤ maxLen then newB h fl ((List.replicate c.toNat z).flatten) (fun n => .sl n 0 l.toNat c.toNat none) else none
    | _, _ => none
noncomputable def r_app (ev : Opd → AV) (h : List AB) (str fl : Bool) (sz by_ : Nat) (s x : Opd) : Option (AV × List AB) :=
  if (ev x).isStr = str then appVF h fl sz by_ (ev s) (ev x) else none
noncomputable def r_cpy (ev : Opd → AV) (h : List AB) (str : Bool) (sz : Nat) (d s : Opd) : Option (AV × List AB) :=
  if (ev s).isStr = str then cpyVF h sz (ev d) (ev s) else none
noncomputable def r_capo (ev : Opd → AV) (h : List AB) (x : Opd) : Option (AV × List AB) :=
  match ev x with
    | .ns => some (.i .i64 0, h)
    | .sl _ _ _ c none => some (.i .i64 c, h)
    | _ => none
noncomputable def r_apz (ev : Opd → AV) (h : List AB) (fl : Bool) (z : List AV) (by_ : Nat) (s n : Opd) : Option (AV × List AB) :=
  match ev s, ev n with
    | .ns, .i _ m => if m = 0 then some (.ns, h) else if 0 < m ∧ m.toNat * by_ ≤ 140737488355328 ∧ m.toNat ≤ maxLen then newB h fl ((List.replicate m.toNat z).flatten) (fun k => .sl k 0 m.toNat m.toNat (some z.length)) else none
    | _, _ => none
noncomputable def r_stop (_ev : Opd → AV) (_h : List AB)  : Option (AV × List AB) :=
  none
noncomputable def r_b2s (ev : Opd → AV) (h : List AB) (x : Opd) : Option (AV × List AB) :=
  if (ev x).isStr then none else (srcVF h 1 (ev x)).bind fun (_, cs) => (bytesOf cs).map fun l => (.s l, h)
noncomputable def r_clr (ev : Opd → AV) (h : List AB) (z : List AV) (x : Opd) : Option (AV × List AB) :=
  match ev x with
    | .ns => some (.tu [], h)
    | .se => some (.tu [], h)
    | .sl id off n _ _ => if n = 0 then some (.tu [], h) else (stBF h id off ((List.replicate n z).flatten)).map (.tu [], ·)
    | _ => none
noncomputable def r_bcmp (ev : Opd → AV) (h : List AB) (x y : Opd) : Option (AV × List AB) :=
  (srcVF h 1 (ev x)).bind fun (_, xs) => (srcVF h 1 (ev y)).bind fun (_, ys) => (bytesOf xs).bind fun l => (bytesOf ys).map fun m => (.i .i64 (Extern.BytealgCompare.cmp ⟨l.toArray⟩ ⟨m.toArray⟩), h)
noncomputable def r_s2b (ev : Opd → AV) (h : List AB) (x : Opd) : Option (AV × List AB) :=
  match ev x with
    | .s l => if l.length ≤ maxLen then some (.sl h.length 0 l.length l.length (some 1), h ++ [.blk true false (l.map fun b => .i .u8 (b.toNat : Int))]) else none
    | _ => none
noncomputable def r_rng (ev : Opd → AV) (h : List AB) (x : Opd) : Option (AV × List AB) :=
  match ev x with
    | .s l => some (.p h.length 0, h ++ [.iter ⟨l.toArray⟩ 0])
    | _ => none
noncomputable def r_nxt (ev : Opd → AV) (h : List AB) (x : Opd) : Option (AV × List AB) :=
  match ev x with
    | .p id 0 => match h[id]? with
      | some (.iter s pos) => if pos < s.size then some (.tu [.b true, .i .i64 (pos : Int), .i .i32 ((Utf8.decode s pos).1 : Int)], h.set id (.iter s (pos + (Utf8.decode s pos).2))) else some (.tu [.b false], h)
      | _ => none
    | _ => none
noncomputable def r_s2s (ev : Opd → AV) (h : List AB) (x : Opd) : Option (AV × List AB) :=
  match ev x with
    | .sl id off n c k => if n = 0 then none else match h[id]? with
      | some (.blk fl true xs) => some (.sl id off n c k, h.set id (.blk fl false xs))
      | _ => none
    | _ => none
noncomputable def r_bix (ev : Opd → AV) (h : List AB) (x y : Opd) : Option (AV × List AB) :=
  match ev x, ev y with
    | .s l, .i .u8 n => some (.i .i64 (match (List.range l.length).find? fun i => (⟨l.toArray⟩ : ByteArray)[i]! == UInt8.ofNat n.toNat with | some i => (i : Int) | none => -1), h)
    | _, _ => none
noncomputable def r_call (_ev : Opd → AV) (_h : List AB) (_x0 : Opd) (_x1 : List Opd) : Option (AV × List AB) :=
  none
noncomputable def CO.runF (ev : Opd → AV) (h : List AB) : CO → Option (AV × List AB)
  | .mv a0 => r_mv ev h a0
  | .pick a0 a1 a2 => r_pick ev h a0 a1 a2
  | .bin a0 a1 a2 => r_bin ev h a0 a1 a2
  | .eqb a0 a1 a2 => r_eqb ev h a0 a1 a2
  | .eqc a0 a1 a2 a3 => r_eqc ev h a0 a1 a2 a3
  | .eqn a0 a1 a2 => r_eqn ev h a0 a1 a2
  | .un a0 a1 => r_un ev h a0 a1
  | .cvi a0 a1 => r_cvi ev h a0 a1
  | .cvs a0 => r_cvs ev h a0
  | .fad a0 a1 => r_fad ev h a0 a1
  | .fld a0 a1 a2 => r_fld ev h a0 a1 a2
  | .iad a0 a1 a2 => r_iad ev h a0 a1 a2
  | .iaa a0 a1 a2 a3 => r_iaa ev h a0 a1 a2 a3
  | .ixs a0 a1 => r_ixs ev h a0 a1
  | .ixa a0 a1 a2 a3 a4 => r_ixa ev h a0 a1 a2 a3 a4
  | .sls a0 a1 a2 => r_sls ev h a0 a1 a2
  | .sll a0 a1 a2 a3 a4 => r_sll ev h a0 a1 a2 a3 a4
  | .sla a0 a1 a2 a3 a4 a5 => r_sla ev h a0 a1 a2 a3 a4 a5
  | .ifc a0 a1 => r_ifc ev h a0 a1
  | .mkf a0 a1 a2 => r_mkf ev h a0 a1 a2
  | .ext a0 a1 => r_ext ev h a0 a1
  | .len a0 a1 => r_len ev h a0 a1
  | .lnc a0 => r_lnc ev h a0
  | .mm a0 a1 a2 => r_mm ev h a0 a1 a2
  | .nck a0 => r_nck ev h a0
  | .tas a0 a1 a2 a3 => r_tas ev h a0 a1 a2 a3
  | .ld a0 a1 => r_ld ev h a0 a1
  | .st a0 a1 a2 => r_st ev h a0 a1 a2
  | .new a0 a1 => r_new ev h a0 a1
  | .box a0 a1 a2 => r_box ev h a0 a1 a2
  | .bld a0 a1 => r_bld ev h a0 a1
  | .bls a0 a1 a2 a3 => r_bls ev h a0 a1 a2 a3
  | .mks a0 a1 a2 a3 a4 => r_mks ev h a0 a1 a2 a3 a4
  | .app a0 a1 a2 a3 a4 a5 => r_app ev h a0 a1 a2 a3 a4 a5
  | .cpy a0 a1 a2 a3 => r_cpy ev h a0 a1 a2 a3
  | .capo a0 => r_capo ev h a0
  | .apz a0 a1 a2 a3 a4 => r_apz ev h a0 a1 a2 a3 a4
  | .stop => r_stop ev h
  | .b2s a0 => r_b2s ev h a0
  | .clr a0 a1 => r_clr ev h a0 a1
  | .bcmp a0 a1 => r_bcmp ev h a0 a1
  | .s2b a0 => r_s2b ev h a0
  | .rng a0 => r_rng ev h a0
  | .nxt a0 => r_nxt ev h a0
  | .s2s a0 => r_s2s ev h a0
  | .bix a0 a1 => r_bix ev h a0 a1
  | .call a0 a1 => r_call ev h a0 a1
theorem runF_eq (ev : Opd → AV) (h : List AB) (o : CO) : o.runF ev h = o.run ev h := by
  cases o with
  | ld n x => simp only [CO.runF, CO.run, r_ld, ldVF_eq]
  | st n x v => simp only [CO.runF, CO.run, r_st, stVF_eq]
  | app str fl sz b s x => simp only [CO.runF, CO.run, r_app, appVF_eq]
  | cpy str sz d s => simp only [CO.runF, CO.run, r_cpy, cpyVF_eq]
  | b2s x => simp only [CO.runF, CO.run, r_b2s, srcVF_eq]
  | clr z x => simp only [CO.runF, CO.run, r_clr, stBF_eq]; rfl
  | bcmp x y => simp only [CO.runF, CO.run, r_bcmp, srcVF_eq]
  | _ => rfl
end Go.Proofs.Ytbcpcjofkfgjoaa
