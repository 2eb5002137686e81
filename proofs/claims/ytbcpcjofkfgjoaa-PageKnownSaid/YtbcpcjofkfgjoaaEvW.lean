/- A region that draws its order: from the abstract machine's run of it to what holds whatever the order. -/
import Derived.Test.YtbcpcjofkfgjoaaEvV
import Derived.Orders
namespace Go.Proofs.Ytbcpcjofkfgjoaa
open Go.RowKit

theorem bit_eq (k m : Nat) : bit k m = m.testBit k := by
  change Nat.beq ((m >>> k) &&& 1) 1 = _
  rw [Nat.and_one_is_mod, Nat.shiftRight_eq_div_pow, Nat.testBit_eq_decide_div_mod_eq, Bool.eq_iff_iff, decide_eq_true_eq, Nat.beq_eq]
theorem bit_fold (g : Nat → Nat) (m : Nat) : ∀ (l : List Nat) (z : Nat), bit m (l.foldl (fun a x => Nat.lor a (Nat.lor (Nat.shiftLeft 1 x) (g x))) z) = true ↔ bit m z = true ∨ ∃ x ∈ l, m = x ∨ bit m (g x) = true
  | [], z => by simp
  | x :: l, z => by
    rw [List.foldl_cons, bit_fold g m l]
    have : bit m (Nat.lor z (Nat.lor (Nat.shiftLeft 1 x) (g x))) = true ↔ bit m z = true ∨ (m = x ∨ bit m (g x) = true) := by
      rw [bit_eq, bit_eq, bit_eq]
      change (z ||| ((1 <<< x) ||| g x)).testBit m = true ↔ _
      rw [Nat.testBit_or, Nat.testBit_or, Nat.testBit_shiftLeft, Bool.or_eq_true, Bool.or_eq_true]
      have : ((decide (m ≥ x) && Nat.testBit 1 (m - x)) = true) ↔ m = x := by
        rw [Bool.and_eq_true, decide_eq_true_eq, Nat.testBit_one_eq_true_iff_self_eq_zero]
        omega
      rw [this]
    rw [this]
    constructor
    · rintro ((h | h) | ⟨y, hy, h⟩)
      · exact .inl h
      · exact .inr ⟨x, List.mem_cons_self .., h⟩
      · exact .inr ⟨y, List.mem_cons_of_mem _ hy, h⟩
    · rintro (h | ⟨y, hy, h⟩)
      · exact .inl (.inl h)
      · rcases List.mem_cons.1 hy with rfl | hy
        · exact .inl (.inr h)
        · exact .inr ⟨y, hy, h⟩
theorem bit_zero (m : Nat) : bit m 0 = false := by
  rw [bit_eq, Nat.zero_testBit]
theorem bit_setOf (t : Nat) (l : List Nat) : bit t (setOf l) = true ↔ t ∈ l := by
  have : setOf l = l.foldl (fun a x => Nat.lor a (Nat.lor (Nat.shiftLeft 1 x) 0)) 0 := by
    unfold setOf
    congr 1
    funext a x
    change a ||| (1 <<< x) = a ||| ((1 <<< x) ||| 0)
    rw [Nat.or_zero]
  rw [this, bit_fold (fun _ => 0), bit_zero]
  simp
theorem bit_lt {m k a : Nat} (h : a < 2 ^ k) (hb : bit m a = true) : m < k := by
  rcases Nat.lt_or_ge m k with q | q
  · exact q
  · rw [bit_eq, Nat.testBit_lt_two_pow (Nat.lt_of_lt_of_le h (Nat.pow_le_pow_right (by omega) q))] at hb
    cases hb

theorem clos_len : ∀ (l : List (COper × List Nat)) (acc : List Nat), (clos acc l).length = l.length
  | [], _ => rfl
  | (o, deps) :: l, acc => by simp [clos, clos_len l]
theorem clos_get : ∀ (l : List (COper × List Nat)) (acc : List Nat) (k : Nat) (d : DOp), (clos acc l)[k]? = some d →
    ∃ o deps, l[k]? = some (o, deps) ∧ d.o = o ∧ d.us = setOf o.tmps ∧ d.anc = deps.foldl (fun m x => Nat.lor m (Nat.lor (Nat.shiftLeft 1 x) ((acc ++ ((clos acc l).map (·.anc)).take k).getD x 0))) 0
  | [], _, _, _, h => by simp [clos] at h
  | (o, deps) :: l, acc, 0, d, h => by
    simp only [clos, List.getElem?_cons_zero, Option.some.injEq] at h
    subst h
    exact ⟨o, deps, rfl, rfl, rfl, by simp⟩
  | (o, deps) :: l, acc, k + 1, d, h => by
    simp only [clos, List.getElem?_cons_succ] at h
    obtain ⟨o', deps', h1, h2, h3, h4⟩ := clos_get l _ k d h
    refine ⟨o', deps', by simpa using h1, h2, h3, ?_⟩
    rw [h4]
    simp only [clos, List.map_cons, List.take_succ_cons, List.append_assoc, List.singleton_append]
theorem tmpOk_get {d : DOp} : ∀ (es : List DOp) (j : Nat), tmpOk d j es = true → ∀ (i : Nat) (e : DOp), es[i]? = some e → bit (j + i) d.anc = true ∨ indepT e d = true
  | [], _, _, i, e, h => by simp at h
  | x :: es, j, h, i, e, he => by
    simp only [tmpOk, Bool.and_eq_true] at h
    cases i with
    | zero =>
      cases he
      have h1 := h.1
      by_cases hb : bit j d.anc = true
      · exact .inl hb
      · rw [if_neg hb] at h1
        exact .inr h1
    | succ i =>
      have := tmpOk_get es (j + 1) h.2 i e (by simpa using he)
      rw [show j + 1 + i = j + (i + 1) by omega] at this
      exact this
theorem drawOk_get : ∀ (ds : List DOp) (dps : List (List Nat)) (pre : List DOp), drawOk pre ds dps = true → ds.length = dps.length ∧ ∀ (k : Nat) (d : DOp) (dp : List Nat), ds[k]? = some d → dps[k]? = some dp →
    (∀ x ∈ dp, bit x d.anc = true) ∧ d.anc < 2 ^ (pre.length + k) ∧ tmpOk d 0 (pre ++ ds.take k) = true
  | [], [], pre, _ => ⟨rfl, fun k d dp h => by simp at h⟩
  | [], _ :: _, pre, h => by simp [drawOk] at h
  | _ :: _, [], pre, h => by simp [drawOk] at h
  | d :: ds, dp :: dps, pre, h => by
    simp only [drawOk, Bool.and_eq_true] at h
    obtain ⟨⟨⟨h1, h2⟩, h3⟩, h4⟩ := h
    obtain ⟨h5, h6⟩ := drawOk_get ds dps (pre ++ [d]) h4
    refine ⟨by simp [h5], fun k d' dp' e1 e2 => ?_⟩
    cases k with
    | zero =>
      cases e1; cases e2
      exact ⟨fun x hx => List.all_eq_true.1 h1 x hx, by simpa [Nat.blt_eq] using h2, by simpa using h3⟩
    | succ k =>
      obtain ⟨a, b, c⟩ := h6 k d' dp' (by simpa using e1) (by simpa using e2)
      refine ⟨a, ?_, ?_⟩
      · rw [List.length_append, List.length_singleton, show pre.length + 1 + k = pre.length + (k + 1) by omega] at b
        exact b
      · rw [List.take_succ_cons]
        simpa using c

section
variable {P : Program}
theorem cDraw_get : ∀ {ops : Array Oper} {is : List Nat} {l : List (COper × List Nat)}, cDraw P ops is = some l → l.length = is.length ∧ ∀ (k : Nat) (c : COper) (deps : List Nat), l[k]? = some (c, deps) → ∃ i o, is[k]? = some i ∧ ops[i]? = some o ∧ compO P ops o = some c ∧ deps = depsOf o
  | ops, [], l, h => by
    cases h
    exact ⟨rfl, fun k c deps h => by simp at h⟩
  | ops, i :: is, l, h => by
    simp only [cDraw] at h
    obtain ⟨o, ho, h⟩ := Option.bind_eq_some_iff.1 h
    obtain ⟨c, hc, h⟩ := Option.bind_eq_some_iff.1 h
    obtain ⟨l', hl, rfl⟩ := Option.map_eq_some_iff.1 h
    obtain ⟨h1, h2⟩ := cDraw_get hl
    refine ⟨by simp [h1], fun k c' deps e => ?_⟩
    cases k with
    | zero =>
      cases e
      exact ⟨i, o, rfl, ho, hc, rfl⟩
    | succ k => exact h2 k c' deps (by simpa using e)
end

noncomputable def stepD (T : Nat → Option CF) (E : RunF) (len0 : Nat) (d : DOp) (k : Nat) (past : List Pt) (fr : List AV) (h : List AB) : Option (AV × List AB × List Pt) :=
  match guardF fr d.o.guard with
  | none => none
  | some b => match b with
    | true => attO T E len0 k d.anc past fr h d.o.op
    | false => some (.tu [], h, past)
theorem drawn_cons {T : Nat → Option CF} {E : RunF} {len0 : Nat} {d : DOp} {l : List DOp} {k : Nat} {past : List Pt} {fr : List AV} {h : List AB} {r : List AV × List AB} (e : drawn T E len0 (d :: l) k past fr h = some r) :
    ∃ v h' past', stepD T E len0 d k past fr h = some (v, h', past') ∧ drawn T E len0 l (k + 1) past' (put fr d.o.dst v) h' = some r := by
  change drawStep T E len0 d (drawn T E len0 l) k past fr h = some r at e
  unfold drawStep at e
  unfold stepD
  split at e
  · cases e
  · rename_i b hb
    rw [hb]
    cases b with
    | true =>
      simp only [drawRun] at e
      split at e
      · cases e
      · rename_i v h' past' hq
        rw [putF_eq] at e
        exact ⟨v, h', past', hq, e⟩
    | false =>
      simp only [putF_eq] at e
      exact ⟨_, _, _, rfl, e⟩
theorem free_run {op : CO} (hm : op.mk = .free) (ev : Opd → AV) (h : List AB) : op.run ev h = (op.run ev []).map fun r => (r.1, h) := by
  cases op <;> first | (cases hm; done) | skip
  all_goals simp only [CO.run]
  all_goals (repeat' split)
  all_goals first | rfl | (simp_all; done) | simp [Option.map_map, Function.comp_def]
theorem mergeB_get (ws : List Nat) (G : List AB) : ∀ (h : List AB) (i0 i : Nat), (mergeB ws G i0 h)[i]? = if i < h.length then (if i0 + i ∈ ws then some ((G[i0 + i]?).getD .dead) else h[i]?) else G[i0 + i]?
  | [], i0, i => by
    simp only [mergeB, List.getElem?_drop, List.length_nil, Nat.not_lt_zero, if_false]
  | B :: h, i0, 0 => by
    simp only [mergeB, List.getElem?_cons_zero, List.length_cons, Nat.zero_lt_succ, if_true, Nat.add_zero, memN_iff, getB_eq]
    split <;> rfl
  | B :: h, i0, i + 1 => by
    simp only [mergeB, List.getElem?_cons_succ, List.length_cons, Nat.add_lt_add_iff_right]
    rw [mergeB_get ws G h (i0 + 1) i, show i0 + 1 + i = i0 + (i + 1) by omega]
theorem mergeB_len (ws : List Nat) (G : List AB) : ∀ (h : List AB) (i0 : Nat), (mergeB ws G i0 h).length = h.length + (G.length - (i0 + h.length))
  | [], i0 => by simp [mergeB]
  | B :: h, i0 => by
    simp only [mergeB, List.length_cons, mergeB_len ws G h (i0 + 1)]
    have : i0 + 1 + h.length = i0 + (h.length + 1) := by omega
    rw [this]
    omega
theorem ldV_agree {h hx : List AB} {n : Option Nat} {x : AV} (hh : ∀ i ∈ idOf x, hx[i]? = h[i]?) : ldV hx n x = ldV h n x := by
  cases x with
  | p id off =>
    have := hh id (by simp [idOf])
    cases n <;> simp only [ldV, rdBlk, this]
  | _ => cases n <;> rfl

/-- What a step of the run in the order of the text tells. -/
structure DSt (T : Nat → Option CF) (E : RunF) (len0 : Nat) (d : DOp) (k : Nat) (past : List Pt) (fr : List AV) (h : List AB) (v : AV) (h' : List AB) (past' : List Pt) (pt : Pt) : Prop where
  pk : pt.k = k
  pp : past' = pt :: past ∨ (past' = past ∧ pt.rs = [] ∧ pt.ws = [] ∧ pt.lo = 0 ∧ pt.hi = 0)
  ind : ∀ p ∈ past, indepP d.anc pt.rs pt.ws p = true
  vok : v.ok (qOk len0 pt.lo pt.hi d.anc past) = true
  cas : (h' = h ∧ pt.ws = [] ∧ pt.lo = 0 ∧ pt.hi = 0 ∧ (∀ i ∈ pt.rs, i < h.length) ∧
      ((guardF fr d.o.guard = some false ∧ v = .tu []) ∨ (guardF fr d.o.guard = some true ∧ ∀ hx, (∀ i ∈ pt.rs, hx[i]? = h[i]?) → opF T E (Opd.evF fr) hx d.o.op = some (v, hx)))) ∨
    (guardF fr d.o.guard = some true ∧ pt.lo = h.length ∧ pt.hi = h'.length ∧ (∀ t ∈ d.o.op.tmps, (nthA fr t).ok (fun i => decide (i < h.length)) = true) ∧
      (∀ i, i ∈ pt.rs ++ pt.ws → ∃ B, h[i]? = some B ∧ B.ok (fun i => decide (i < h.length)) = true) ∧
      ∃ G, opF T E (Opd.evF fr) (maskB pt.rs pt.ws 0 h) d.o.op = some (v, G) ∧ h' = mergeB pt.ws G 0 h ∧ h.length ≤ G.length ∧
        (∀ id ∈ pt.ws, ((G[id]?).getD .dead).ok (qOk len0 pt.lo pt.hi d.anc past) = true) ∧ ∀ B ∈ G.drop h.length, B.ok (qOk len0 pt.lo pt.hi d.anc past) = true)
theorem okIn_eq (n : Nat) : okIn n = fun i => decide (i < n) := by
  funext i
  unfold okIn
  rw [Bool.eq_iff_iff, Nat.blt_eq, decide_eq_true_eq]
theorem att_some {T : Nat → Option CF} {E : RunF} {len0 : Nat} {d : DOp} {k : Nat} {past : List Pt} {fr : List AV} {h : List AB} {rs ws : List Nat} {v : AV} {h' : List AB} {past' : List Pt} (hg : guardF fr d.o.guard = some true)
    (e : att T E len0 k d.anc past fr h d.o.op rs ws = some (v, h', past')) : ∃ pt, DSt T E len0 d k past fr h v h' past' pt := by
  unfold att at e
  split at e
  · rename_i h1
    simp only [Bool.and_eq_true] at h1
    obtain ⟨⟨h1, h2⟩, h3⟩ := h1
    split at e
    · cases e
    · rename_i v' G hrun
      split at e
      · rename_i h4
        simp only [Bool.and_eq_true] at h4
        obtain ⟨⟨⟨h4, h5⟩, h6⟩, h7⟩ := h4
        cases e
        have hle : h.length ≤ G.length := by simpa [Nat.ble_eq] using h5
        refine ⟨⟨k, h.length, G.length, rs, ws⟩, rfl, .inl rfl, fun p hp => List.all_eq_true.1 h3 p hp, by rw [okV_eq] at h4; exact h4, .inr ⟨hg, rfl, ?_, fun t ht => ?_, fun i hi => ?_, G, hrun, rfl, hle, fun id hid => ?_, fun B hB => List.all_eq_true.1 h7 B hB⟩⟩
        · simp only [mergeB_len]
          omega
        · have := List.all_eq_true.1 h1 t ht
          rw [okV_eq, okIn_eq] at this
          exact this
        · have := List.all_eq_true.1 h2 i hi
          rw [getB_eq] at this
          split at this
          · rename_i B hB
            rw [okIn_eq] at this
            exact ⟨B, hB, this⟩
          · cases this
        · have := List.all_eq_true.1 h6 id hid
          rw [getB_eq] at this
          exact this
      · cases e
  · cases e
theorem stepD_some {T : Nat → Option CF} {E : RunF} {len0 : Nat} {d : DOp} {k : Nat} {past : List Pt} {fr : List AV} {h : List AB} {v : AV} {h' : List AB} {past' : List Pt}
    (e : stepD T E len0 d k past fr h = some (v, h', past')) : ∃ pt, DSt T E len0 d k past fr h v h' past' pt := by
  have triv : ∀ p : Pt, indepP d.anc [] [] p = true := fun p => by
    unfold indepP
    split <;> simp
  unfold stepD at e
  split at e
  · cases e
  · rename_i b hg
    cases b with
    | false =>
      simp only at e
      cases e
      exact ⟨⟨k, 0, 0, [], []⟩, rfl, .inr ⟨rfl, rfl, rfl, rfl, rfl⟩, fun p _ => triv p, rfl, .inl ⟨rfl, rfl, rfl, rfl, fun i hi => by simp at hi, .inl ⟨hg, rfl⟩⟩⟩
    | true =>
      simp only at e
      unfold attO at e
      split at e
      · rename_i hm
        unfold attFree at e
        split at e
        · cases e
        · rename_i v' g' hr
          split at e
          · rename_i hok
            cases e
            rw [okV_eq] at hok
            refine ⟨⟨k, 0, 0, [], []⟩, rfl, .inr ⟨rfl, rfl, rfl, rfl, rfl⟩, fun p _ => triv p, hok, .inl ⟨rfl, rfl, rfl, rfl, fun i hi => by simp at hi, .inr ⟨hg, fun hx _ => ?_⟩⟩⟩
            rw [runF_eq, free_run hm] at hr
            obtain ⟨r, hr1, hr2⟩ := Option.map_eq_some_iff.1 hr
            cases hr2
            have hop : opF T E (Opd.evF fr) hx d.o.op = d.o.op.run (Opd.evF fr) hx := by
              cases hop : d.o.op <;> rw [hop] at hm <;> first | (cases hm; done) | simp only [opF, runF_eq]
            rw [hop, free_run hm, hr1]
            rfl
          · cases e
      · rename_i x hm
        unfold attLd at e
        split at e
        · rename_i hall
          split at e
          · cases e
          · rename_i v' g' hr
            split at e
            · rename_i hok
              cases e
              rw [okV_eq] at hok
              have hop : ∃ n, d.o.op = .ld n x := by
                cases hop : d.o.op <;> rw [hop] at hm <;> cases hm
                exact ⟨_, rfl⟩
              obtain ⟨n, hop⟩ := hop
              rw [hop, runF_eq] at hr
              simp only [CO.run] at hr
              obtain ⟨r, hr1, hr2⟩ := Option.map_eq_some_iff.1 hr
              cases hr2
              refine ⟨⟨k, 0, 0, idOf (Opd.evF fr x), []⟩, rfl, .inl rfl, fun p hp => List.all_eq_true.1 hall p hp, hok, .inl ⟨rfl, rfl, rfl, rfl, fun i hi => ?_, .inr ⟨hg, fun hx hhx => ?_⟩⟩⟩
              · have key : ∀ {id : Nat} {xs : List AV}, rdBlk h id = some xs → id < h.length := fun {id xs} q => by
                  unfold rdBlk at q
                  split at q
                  · rename_i h1
                    exact (List.getElem?_eq_some_iff.1 h1).1
                  · cases q
                dsimp only at hi
                cases hx : Opd.evF fr x with
                | p id off =>
                  rw [hx] at hi hr1
                  obtain rfl : i = id := by simpa [idOf] using hi
                  cases n <;> simp only [ldV] at hr1 <;> obtain ⟨xs, hxs, _⟩ := Option.bind_eq_some_iff.1 hr1 <;> exact key hxs
                | _ => rw [hx] at hr1; cases n <;> cases hr1
              · rw [hop]
                simp only [opF, runF_eq, CO.run]
                rw [ldV_agree hhx, hr1]
                rfl
            · cases e
        · cases e
      · unfold attC at e
        split at e
        · rename_i r hr
          cases e
          exact att_some hg hr
        · exact att_some hg e
      · exact att_some hg e

structure St where
  fr : List AV
  h : List AB
  past : List Pt
theorem drawn_seq {T : Nat → Option CF} {E : RunF} {len0 : Nat} : ∀ (l : List DOp) (k : Nat) (past : List Pt) (fr : List AV) (h : List AB) (r : List AV × List AB), drawn T E len0 l k past fr h = some r →
    ∃ (S : Nat → St) (V : Nat → AV) (PT : Nat → Pt), S 0 = ⟨fr, h, past⟩ ∧ (∀ j d, l[j]? = some d → DSt T E len0 d (k + j) (S j).past (S j).fr (S j).h (V j) (S (j + 1)).h (S (j + 1)).past (PT j) ∧ (S (j + 1)).fr = put (S j).fr d.o.dst (V j)) ∧
      (S l.length).fr = r.1 ∧ (S l.length).h = r.2
  | [], k, past, fr, h, r, e => by
    cases e
    exact ⟨fun _ => ⟨fr, h, past⟩, fun _ => .tu [], fun _ => ⟨0, 0, 0, [], []⟩, rfl, fun j d q => by simp at q, rfl, rfl⟩
  | d :: l, k, past, fr, h, r, e => by
    obtain ⟨v, h', past', hs, e⟩ := drawn_cons e
    obtain ⟨pt, hpt⟩ := stepD_some hs
    obtain ⟨S, V, PT, s0, s1, s2, s3⟩ := drawn_seq l (k + 1) past' _ h' r e
    refine ⟨fun j => Nat.casesOn j ⟨fr, h, past⟩ S, fun j => Nat.casesOn j v V, fun j => Nat.casesOn j pt PT, rfl, fun j d' hd => ?_, s2, s3⟩
    cases j with
    | zero =>
      cases hd
      refine ⟨?_, ?_⟩
      · change DSt T E len0 d (k + 0) past fr h v (S 0).h (S 0).past pt
        rw [s0]
        exact hpt
      · change (S 0).fr = put fr d.o.dst v
        rw [s0]
    | succ j =>
      have := s1 j d' (by simpa using hd)
      rw [show k + 1 + j = k + (j + 1) by omega] at this
      exact this
end Go.Proofs.Ytbcpcjofkfgjoaa
