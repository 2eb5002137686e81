/- Part 3 of what the laws' proofs rest on. No condition. -/
import Derived.Lib.AppendZeros
import Derived.Laws.BytesString
import Derived.Test.YtnnkfhlmkaobfaaCm2
set_option linter.all false
section
namespace Go.Proofs.Ytnnkfhlmkaobfaa
open Go.RowKit
section
variable {P : Program} {K : Code → CC → Prop}
/-- A block is given up. -/
theorem Rel.kill {ρ : Mp} {h : List AB} {w : World} (r : Rel K ρ h w) (id : Nat) : Rel K ρ (h.set id .dead) w ∧ Eff ρ h w ρ (h.set id .dead) w := by
  have here : ∀ (j : Nat) (C : AB), (h.set id .dead)[j]? = some C → C = .dead ∨ h[j]? = some C := fun j C hj => by
    rw [List.getElem?_set] at hj
    by_cases hij : id = j
    · subst hij
      rw [if_pos rfl] at hj
      split at hj
      · cases hj
        exact .inl rfl
      · cases hj
    · rw [if_neg hij] at hj
      exact .inr hj
  refine ⟨⟨by simp [r.len], fun i B b o n h1 h2 => ?_, fun i j bi oi bj oj Bi Bj hne h1 h2 h3 h4 hm hl => ?_⟩, ⟨rfl, rfl, ⟨rfl, Nat.le_refl _⟩, Nat.le_refl _, fun _ _ _ => rfl, fun b hb => ?_, fun i b hb => ?_⟩⟩
  · rcases here i B h1 with rfl | h1
    · trivial
    · exact r.blk i B b o n h1 h2
  · rcases here i Bi h1 with rfl | h1
    · cases hm
    · rcases here j Bj h2 with rfl | h2
      · cases hl
      · exact r.sep i j bi oi bj oj Bi Bj hne h1 h2 h3 h4 hm hl
  · obtain ⟨i, B, o, h1, hm, h2⟩ := hb
    rcases here i B h1 with rfl | h1
    · cases hm
    · exact .inl ⟨i, B, o, h1, hm, h2⟩
  · obtain ⟨B, o, h1, hm, h2⟩ := hb
    rcases here i B h1 with rfl | h1
    · cases hm
    · exact .inl ⟨B, o, h1, hm, h2⟩
/-- A block takes another number, from a place on. -/
theorem Rel.move {ρ : Mp} {h : List AB} {w : World} (r : Rel K ρ h w) {id : Nat} {fl : Bool} {xs : List AV} (hb : h[id]? = some (.blk fl true xs)) {b o n : Nat} (hρ : ρ[id]? = some (b, o, n)) (off : Nat) (hoff : off ≤ xs.length) :
    Rel K (ρ ++ [(b, o + off, n)]) (h.set id .dead ++ [.blk fl true (xs.drop off)]) w ∧ Eff ρ h w (ρ ++ [(b, o + off, n)]) (h.set id .dead ++ [.blk fl true (xs.drop off)]) w := by
  have hlen : (h.set id .dead).length = h.length := by simp
  have cases' : ∀ (i : Nat) (C : AB) (x : Nat × Nat × Nat), (h.set id .dead ++ [.blk fl true (xs.drop off)])[i]? = some C → (ρ ++ [(b, o + off, n)])[i]? = some x →
      (C = .dead) ∨ (i ≠ id ∧ i < h.length ∧ h[i]? = some C ∧ ρ[i]? = some x) ∨ (i = h.length ∧ C = .blk fl true (xs.drop off) ∧ x = (b, o + off, n)) := fun i C x h1 h2 => by
    by_cases hi : i < h.length
    · rw [List.getElem?_append_left (by simpa using hi), List.getElem?_set] at h1
      rw [List.getElem?_append_left (by rw [r.len]; exact hi)] at h2
      by_cases hid : id = i
      · rw [if_pos hid] at h1
        split at h1
        · cases h1
          exact .inl rfl
        · cases h1
      · rw [if_neg hid] at h1
        exact .inr (.inl ⟨fun e => hid e.symm, hi, h1, h2⟩)
    · rw [List.getElem?_append_right (by simp; omega)] at h1
      rw [List.getElem?_append_right (by rw [r.len]; omega)] at h2
      rw [hlen] at h1
      rw [r.len] at h2
      cases hq : i - h.length with
      | zero =>
        rw [hq] at h1 h2
        simp at h1 h2
        exact .inr (.inr ⟨by omega, h1.symm, h2.symm⟩)
      | succ k => rw [hq] at h1; simp at h1
  have hB := r.blk id _ b o n hb hρ
  refine ⟨⟨by simp [r.len], fun i B b' o' n' h1 h2 => ?_, fun i j bi oi bj oj Bi Bj hne h1 h2 h3 h4 hm hl => ?_⟩, ⟨rfl, rfl, ⟨rfl, Nat.le_refl _⟩, Nat.le_refl _, fun _ _ _ => rfl, fun b' hb' => ?_, fun i b' hb' => ?_⟩⟩
  · rcases cases' i B _ h1 h2 with rfl | ⟨_, _, h1, h2⟩ | ⟨_, rfl, h2⟩
    · trivial
    · exact (r.blk i B b' o' n' h1 h2).same (Ext.push _ _) fun _ => rfl
    · cases h2
      obtain ⟨cs, ty, fz, q1, q2, q3, q4⟩ := hB
      refine ⟨cs, ty, fz, q1, q2, by simp; omega, fun k a c ha hc => ?_⟩
      rw [List.getElem?_drop] at ha
      rw [Nat.add_assoc] at hc
      exact (q4 _ a c ha hc).ext (flm_ext fl (Ext.push _ _))
  · rcases cases' i Bi _ h1 h3 with rfl | ⟨hi, _, h1, h3⟩ | ⟨rfl, rfl, h3⟩
    · cases hm
    · rcases cases' j Bj _ h2 h4 with rfl | ⟨hj, _, h2, h4⟩ | ⟨rfl, rfl, h4⟩
      · cases hl
      · exact r.sep i j bi oi bj oj Bi Bj hne h1 h2 h3 h4 hm hl
      · cases h4
        exact r.sep i id bi oi b (o, n) Bi _ hi h1 hb h3 hρ hm rfl
    · cases h3
      rcases cases' j Bj _ h2 h4 with rfl | ⟨hj, _, h2, h4⟩ | ⟨rfl, rfl, h4⟩
      · cases hl
      · exact r.sep id j b (o, n) bj oj _ Bj (fun e => hj e.symm) hb h2 hρ h4 rfl hl
      · exact absurd rfl hne
  · obtain ⟨i, B, o', h1, hm, h2⟩ := hb'
    rcases cases' i B _ h1 h2 with rfl | ⟨hi, _, h1, h2⟩ | ⟨_, rfl, h2⟩
    · cases hm
    · exact .inl ⟨i, B, o', h1, hm, h2⟩
    · cases h2
      exact .inl ⟨id, _, (o, n), hb, rfl, hρ⟩
  · obtain ⟨B, o', h1, hm, h2⟩ := hb'
    rcases cases' i B _ h1 h2 with rfl | ⟨hi, _, h1, h2⟩ | ⟨_, rfl, h2⟩
    · cases hm
    · exact .inl ⟨B, o', h1, hm, h2⟩
    · cases h2
      exact .inr (.inl ⟨id, _, (o, n), hb, rfl, hρ⟩)
theorem bytes_vl (ρ : Mp) (bs : ByteArray) : VL ρ (bs.data.toList.map fun b => AV.i .u8 b.toNat) (byteCells bs).toArray := by
  refine ⟨by simp [byteCells], fun j a c ha hc => ?_⟩
  simp only [byteCells, List.getElem?_toArray, List.getElem?_map] at ha hc
  obtain ⟨u, hu, rfl⟩ := Option.map_eq_some_iff.1 ha
  rw [hu] at hc
  cases hc
  exact .i _ _
/-- What is appended or copied, in the world. -/
theorem src_of {ρ : Mp} {h : List AB} {w : World} (hr : Rel K ρ h w) {sz : Nat} {x : AV} {m : Nat} {ys : List AV} (e : srcV h sz x = some (m, ys)) {vx : Value} (hx : VR ρ x vx) (tx : TypeId) {d : TypeDesc} (hd : P.underlying tx = some d)
    (ht : (∃ l, x = .s l) ∧ d = .string ∨ (∀ l, x ≠ .s l) ∧ ∃ e', d = .slice e') (hok : ys.all AV.one = true) :
    ∃ news : List Value, Src P sz tx vx m news w ∧ VL ρ ys news.toArray := by
  have one : ∀ {ys : List AV} {news : List Value}, ys.all AV.one = true → VL ρ ys news.toArray → ∀ u ∈ news, u.oneCell' = true := fun hok hv u hu => by
    obtain ⟨j, hj⟩ := List.getElem?_of_mem hu
    have hlen := hv.1
    simp at hlen
    have hjl := (List.getElem?_eq_some_iff.1 hj).1
    rw [← hlen] at hjl
    exact (hv.2 j _ u (List.getElem?_eq_getElem hjl) (by simpa using hj)).oneCell (List.all_eq_true.1 hok _ (List.getElem_mem hjl))
  cases hx with
  | ns =>
    cases e
    rcases ht with ⟨⟨l, hl⟩, _⟩ | ⟨_, e', rfl⟩
    · cases hl
    · exact ⟨[], Src.ofNil w hd 0, VL.nil ρ⟩
  | se a c hc =>
    cases e
    rcases ht with ⟨⟨l, hl⟩, _⟩ | ⟨_, e', rfl⟩
    · cases hl
    · exact ⟨[], Src.ofSlice w hd a 0 c [] (by simp) (fun j u hu => by simp at hu) (fun u hu => by simp at hu), VL.nil ρ⟩
  | s l bs hl =>
    subst hl
    simp only [srcV] at e
    split at e
    · rename_i hs
      subst hs
      cases e
      rcases ht with ⟨_, rfl⟩ | ⟨hn, _⟩
      · refine ⟨byteCells bs, ?_, bytes_vl ρ bs⟩
        have := Src.ofString (P := P) w hd bs
        rw [size_list] at this
        exact this
      · exact absurd rfl (hn _)
    · cases e
  | sz id off a c hc hn =>
    simp only [srcV, if_true] at e
    cases e
    rcases ht with ⟨⟨l, hl⟩, _⟩ | ⟨_, e', rfl⟩
    · cases hl
    · refine ⟨[], ?_, by simpa using VL.nil ρ⟩
      cases a with
      | none => exact Src.ofNil w hd c
      | some a => exact Src.ofSlice w hd a 0 c [] (by simp) (fun j u hu => by simp at hu) (fun u hu => by simp at hu)
  | sl id off len cap k b o n cap' hρ h1 h2 h3 h4 h5 =>
    simp only [srcV] at e
    split at e
    · rename_i h0
      subst h0
      cases e
      rcases ht with ⟨⟨l, hl⟩, _⟩ | ⟨_, e', rfl⟩
      · cases hl
      · exact ⟨[], Src.ofSlice w hd _ 0 cap' [] (by simp) (fun j u hu => by simp at hu) (fun u hu => by simp at hu), VL.nil ρ⟩
    obtain ⟨xs, hxs, e⟩ := Option.bind_eq_some_iff.1 e
    split at e
    · rename_i hle
      cases e
      rcases ht with ⟨⟨l, hl⟩, _⟩ | ⟨_, e', rfl⟩
      · cases hl
      · obtain ⟨vs, hl, hc, hv⟩ := hr.win hxs hρ off (m * sz) hle
        exact ⟨vs, Src.ofSlice w hd _ m cap' vs hl hc (one hok hv), hv⟩
    · cases e
  | _ => simp [srcV] at e
theorem one_all {fl : Bool} {ys : List AV} (h : ys.all (wrOk fl) = true) : ys.all AV.one = true :=
  List.all_eq_true.2 fun a ha => one_of_wrOk (List.all_eq_true.1 h a ha)
theorem srcV_len {h : List AB} {sz : Nat} {x : AV} {m : Nat} {ys : List AV} (e : srcV h sz x = some (m, ys)) : ys.length = m * sz := by
  cases x with
  | ns => cases e; simp
  | se => cases e; simp
  | s l =>
    simp only [srcV] at e
    split at e
    · rename_i hs
      cases e
      simp [hs]
    · cases e
  | sl id off len cap k =>
    simp only [srcV] at e
    split at e
    · cases e; simp
    obtain ⟨xs, _, e⟩ := Option.bind_eq_some_iff.1 e
    split at e
    · cases e
      simp
      omega
    · cases e
  | _ => simp [srcV] at e
/-- Cells laid behind the cells of an owned block, where the world has room. -/
theorem room_rel {ρ : Mp} {h : List AB} {w : World} (hr : Rel K ρ h w) {id : Nat} {fl : Bool} {xs : List AV} (hb : h[id]? = some (.blk fl true xs)) {b o n : Nat} (hρ : ρ[id]? = some (b, o, n)) {l : List AV} {vs : List Value}
    (hv : VL ρ l vs.toArray) (hok : l.all (wrOk fl) = true) (hle : o + xs.length + l.length ≤ n) :
    (storeCells ⟨b, o + xs.length, none⟩ vs 0).run P w = .ok () (w.setRow b ((match w.heap[b]? with | some (.cells cs _ _) => cs.toList.take (o + xs.length) ++ vs ++ cs.toList.drop (o + xs.length + vs.length) | _ => []).toArray)) ∧
    Rel K ρ (h.set id (.blk fl true (xs ++ l))) (w.setRow b ((match w.heap[b]? with | some (.cells cs _ _) => cs.toList.take (o + xs.length) ++ vs ++ cs.toList.drop (o + xs.length + vs.length) | _ => []).toArray)) ∧
    Eff ρ h w ρ (h.set id (.blk fl true (xs ++ l))) (w.setRow b ((match w.heap[b]? with | some (.cells cs _ _) => cs.toList.take (o + xs.length) ++ vs ++ cs.toList.drop (o + xs.length + vs.length) | _ => []).toArray)) := by
  obtain ⟨cs, ty, fz, h1, h2, h3, h4⟩ := hr.blk id _ b o n hb hρ
  obtain ⟨rfl, hn⟩ := h2 rfl
  have hlen : l.length = vs.length := by have := hv.1; simpa using this
  have hall : ∀ (j : Nat) a, l[j]? = some a → wrOk fl a = true := fun j a ha => List.all_eq_true.1 hok a (List.mem_of_getElem? ha)
  have hone : ∀ v ∈ vs, v.oneCell' = true := fun v hvm => by
    obtain ⟨j, hj⟩ := List.getElem?_of_mem hvm
    have hjl : j < l.length := by rw [hlen]; exact (List.getElem?_eq_some_iff.1 hj).1
    exact (hv.2 j _ v (List.getElem?_eq_getElem hjl) (by simpa using hj)).oneCell (one_of_wrOk (hall j _ (List.getElem?_eq_getElem hjl)))
  have hst := run_storeCells_at (P := P) b (o + xs.length) ty vs 0 cs w h1 (by omega) hone
  rw [Nat.add_zero] at hst
  simp only [h1]
  refine ⟨hst, hr.put hb rfl hρ ?_ rfl rfl ⟨rfl, Nat.le_refl _⟩ (by simp) (fun k hk => setRow_other w b k _ hk) (fun _ => rfl)⟩
  refine ⟨_, ty, (0, 0), setRow_heap w b cs _ ty _ h1, fun _ => ⟨rfl, ?_⟩, ?_, fun k a c ha hc => ?_⟩
  · simp
    omega
  · simp
    omega
  · rw [overV_get _ _ _ (by simp; omega)] at hc
    simp only [Array.getElem?_toList] at hc
    by_cases q1 : k < xs.length
    · rw [List.getElem?_append_left q1] at ha
      rw [if_pos (by omega)] at hc
      exact h4 k a c ha hc
    · rw [List.getElem?_append_right (by omega)] at ha
      have q2 := (List.getElem?_eq_some_iff.1 ha).1
      rw [if_neg (by omega), if_pos (by omega)] at hc
      have hidx : o + k - (o + xs.length) = k - xs.length := by omega
      rw [hidx] at hc
      exact (hv.2 _ a c ha (by simpa using hc)).wr (hall _ a ha)
/-- append where there is room: by its stores. -/
theorem run_app_room {w w' : World} (t tx ty e : TypeId) {i : TypeInfo} (ht : P.underlying t = some (.slice e)) (hi : P.info? e = some i) (b off sLen sCap : Nat) (x : Value) (n : Nat) (news : List Value) (hs : Src P i.size tx x n news w)
    (hroom : sLen + n ≤ sCap) (hst : (storeCells ⟨b, off + sLen * i.size, none⟩ news 0).run P w = .ok () w') :
    (Builtin.append_ #[t, tx] ty #[.slice (some ⟨b, off, none⟩) sLen sCap, x]).run P w = .ok (.slice (some ⟨b, off, none⟩) (sLen + n) sCap) w' := by
  have hadd : (⟨b, off, none⟩ : Addr).add (sLen * i.size) = ⟨b, off + sLen * i.size, none⟩ := by unfold Addr.add; split <;> simp_all
  rcases hs.kind with ⟨e', hk⟩ | hk <;> simp [Builtin.append_, run_underlying ht, run_underlying hk, sizeOf, typeInfo, hi, hs.len, hroom, hs.cells, hadd, hst]
theorem good_grow {ρ : Mp} {h h0 : List AB} {w : World} (hr : Rel K ρ h0 w) (he : Eff ρ h w ρ h0 w) (t tx ty e : TypeId) {i : TypeInfo} {z : Value} (ht : P.underlying t = some (.slice e)) (hi : P.info? e = some i) (hz : i.zero = some z) (hzs : z.cells.size = i.size) (fl : Bool)
    (base : Option Addr) (sLen sCap : Nat) {olds news : List Value} (hold : (Builtin.firstCells i.size sLen (.slice base sLen sCap)).run P w.drew = .ok olds.toArray w.drew) (holdl : olds.length = sLen * i.size) {xo ys : List AV} (hvo : VL (flm fl ρ) xo olds.toArray)
    {x : Value} {m : Nat} (hs : Src P i.size tx x m news w) (hvn : VL ρ ys news.toArray) (hokn : ys.all (wrOk fl) = true) (hg : sCap < sLen + m) (hby : (sLen + m) * i.bytes ≤ 140737488355328) (hmx : sLen + m ≤ maxLen) :
    Good K P ρ h w (Builtin.append_ #[t, tx] ty #[.slice base sLen sCap, x]) (.sl h0.length 0 (sLen + m) (sLen + m) (some i.size), h0 ++ [.blk fl true (xo ++ ys)]) := by
  have hrun := run_append_grow_src (P := P) w t tx ty e i z ht hi hz base sLen sCap olds hold x m news hs hg (by unfold maxLen at hmx; omega) (growslice_fits hg hby)
  have hv : VL (flm fl ρ) (xo ++ ys) (olds ++ news).toArray := by
    have := hvo.append (hvn.wr hokn)
    simpa using this
  have hge := grownCap_ge w (sLen + m) sCap e
  have hle := grownCap_le_maxLen w (sLen + m) sCap e hmx
  have hnew := new_rel hr.drew e fl (rest := Builtin.zeroCells z.cells (grownCap w (sLen + m) sCap e - (sLen + m))) hv
  refine ⟨_, _, _, hrun, Ext.push _ _, hnew.1, ?_, (he.trans (Eff.drew ρ h0 w)).trans hnew.2⟩
  have := VR.sl (ρ := ρ ++ [(w.drew.heap.size, 0, ((olds ++ news).toArray ++ Builtin.zeroCells z.cells (grownCap w (sLen + m) sCap e - (sLen + m))).size)]) h0.length 0 (sLen + m) (sLen + m) (some i.size) w.heap.size 0 _ (grownCap w (sLen + m) sCap e) (ext_last ρ h0 _ hr.len) (Nat.le_refl _) hge hle (fun hk => by cases hk) (fun z' hz' _ => by
    cases hz'
    simp only [Array.size_append, List.size_toArray, List.length_append, holdl, hs.newsLen, size_zeroCells, hzs]
    have hq : sLen * i.size + m * i.size + (grownCap w (sLen + m) sCap e - (sLen + m)) * i.size = grownCap w (sLen + m) sCap e * i.size := by rw [← Nat.add_mul, ← Nat.add_mul, Nat.add_sub_cancel' hge]
    omega)
  simpa using this
theorem good_app {ρ : Mp} {h : List AB} {w : World} (hr : Rel K ρ h w) (t tx ty e : TypeId) {d : TypeDesc} {i : TypeInfo} {z : Value} (ht : P.underlying t = some (.slice e)) (hi : P.info? e = some i) (hz : i.zero = some z) (hzs : z.cells.size = i.size) (fl : Bool) (hd : P.underlying tx = some d)
    {s x : AV} {vs vx : Value} (hs : VR ρ s vs) (hx : VR ρ x vx) (hty : (∃ l, x = .s l) ∧ d = .string ∨ (∀ l, x ≠ .s l) ∧ ∃ e', d = .slice e') {r : AV × List AB} (er : appV h fl i.size i.bytes s x = some r) :
    Good K P ρ h w (Builtin.append_ #[t, tx] ty #[vs, vx]) r := by
  unfold appV at er
  obtain ⟨⟨m, ys⟩, hsrc, er⟩ := Option.bind_eq_some_iff.1 er
  simp only at er
  split at er
  case isFalse => cases er
  rename_i hok
  obtain ⟨news, hS, hvn⟩ := src_of (P := P) hr hsrc hx tx hd hty (one_all hok)
  have hnl := hS.newsLen
  have hyl := srcV_len hsrc
  cases hs with
  | ns =>
    simp only at er
    split at er
    · rename_i hm
      cases er
      subst hm
      refine ⟨.slice none 0 0, w, ρ, ?_, Ext.refl _, hr, .ns, Eff.refl _ _ _⟩
      rcases hS.kind with ⟨e', hk⟩ | hk <;> simp [Builtin.append_, run_underlying ht, run_underlying hk, sizeOf, typeInfo, hi, hS.len, hS.cells]
    · split at er
      · rename_i hm hb
        cases er
        have := good_grow hr (Eff.refl ρ h w) t tx ty e ht hi hz hzs fl none 0 0 (olds := []) (xo := []) (by simp [Builtin.firstCells]) (by simp) (VL.nil _) hS hvn hok (by omega) (by simpa using hb.1) (by simpa using hb.2)
        simpa using this
      · cases er
  | sz id off a c hc hn =>
    simp only at er
    split at er
    · rename_i hm
      cases er
      subst hm
      refine ⟨.slice a 0 c, w, ρ, ?_, Ext.refl _, hr, .sz _ _ _ _ hc hn, Eff.refl _ _ _⟩
      have hnil : news = [] := List.length_eq_zero_iff.1 (by rw [hnl]; simp)
      subst hnil
      cases a with
      | none =>
        have hc0 := hn rfl
        subst hc0
        rcases hS.kind with ⟨e', hk⟩ | hk <;> simp [Builtin.append_, run_underlying ht, run_underlying hk, sizeOf, typeInfo, hi, hS.len, hS.cells]
      | some a =>
        rcases hS.kind with ⟨e', hk⟩ | hk <;> simp [Builtin.append_, run_underlying ht, run_underlying hk, sizeOf, typeInfo, hi, hS.len, hS.cells, storeCells]
    · rename_i hm
      rw [if_neg (by omega)] at er
      split at er
      · split at er
        · simp at er
          obtain ⟨⟨q1, q2, _⟩, _⟩ := er
          exact absurd q1.symm q2
        · cases er
      · cases er
  | sl id off len cap k b o n cap' hρ h1 h2 h3 h4 h5 =>
    simp only at er
    split at er
    · rename_i hm
      cases er
      subst hm
      refine ⟨.slice (some ⟨b, o + off, none⟩) len cap', w, ρ, ?_, Ext.refl _, hr, .sl _ _ _ _ _ b o n cap' hρ h1 h2 h3 h4 h5, Eff.refl _ _ _⟩
      have hnil : news = [] := List.length_eq_zero_iff.1 (by rw [hnl]; simp)
      subst hnil
      have hlc : len ≤ cap' := by omega
      rcases hS.kind with ⟨e', hk⟩ | hk <;> simp [Builtin.append_, run_underlying ht, run_underlying hk, sizeOf, typeInfo, hi, hS.len, hS.cells, storeCells, hlc]
    split at er
    · rename_i hroom
      obtain ⟨h', hst, rfl⟩ := Option.map_eq_some_iff.1 er
      obtain ⟨w', hw', q1, q2⟩ := good_stB (P := P) hr hst hρ hvn
      rw [← Nat.add_assoc] at hw'
      exact ⟨_, w', ρ, run_app_room (P := P) t tx ty e ht hi b (o + off) len cap' vx m news hS (by omega) hw', Ext.refl _, q1, .sl id off (len + m) cap k b o n cap' hρ hroom h2 h3 h4 h5, q2⟩
    · rename_i hroom
      split at er
      case h_2 => cases er
      rename_i fl' mu xs hb
      split at er
      case isFalse => cases er
      rename_i hc
      obtain ⟨rfl, hwin, hby, hmx⟩ := hc
      obtain ⟨vo, hvl, hvc, hvv⟩ := hr.winF hb hρ off (len * i.size) hwin
      have hold : (Builtin.firstCells i.size len (.slice (some ⟨b, o + off, none⟩) len cap')).run P w.drew = .ok vo.toArray w.drew := run_firstCells_some (P := P) w.drew i.size len ⟨b, o + off, none⟩ len cap' vo hvl (by simpa using hvc)
      split at er
      · rename_i hk
        cases er
        have hcc := h4 hk
        exact good_grow hr (Eff.refl ρ h w) t tx ty e ht hi hz hzs fl' _ len cap' hold hvl hvv hS hvn hok (by omega) hby hmx
      · split at er
        · rename_i hk hq
          cases er
          obtain ⟨rfl, hz0, rfl, hend⟩ := hq
          have htake : (xs.drop off).take (len * i.size) = xs.drop off := List.take_of_length_le (by simp; omega)
          by_cases hcap : len + m ≤ cap'
          · have hN := h5 _ rfl hz0
            have hmul : (len + m) * i.size ≤ cap' * i.size := Nat.mul_le_mul_right _ hcap
            rw [Nat.add_mul] at hmul
            obtain ⟨r1, r2, r3⟩ := room_rel (P := P) hr hb hρ hvn hok (by omega)
            generalize w.setRow b ((match w.heap[b]? with | some (.cells cs _ _) => cs.toList.take (o + xs.length) ++ news ++ cs.toList.drop (o + xs.length + news.length) | _ => []).toArray) = w1 at r1 r2 r3
            have hlt : id < h.length := (List.getElem?_eq_some_iff.1 hb).1
            have hm' := Rel.move r2 (id := id) (fl := fl') (xs := xs ++ ys) (by simp [hlt]) hρ off (by simp; omega)
            rw [List.set_set, List.drop_append_of_le_length (by omega)] at hm'
            have hq : o + off + len * i.size = o + xs.length := by omega
            rw [← hq] at r1
            refine ⟨_, _, _, run_app_room (P := P) t tx ty e ht hi b (o + off) len cap' vx m news hS hcap r1, Ext.push _ _, hm'.1, ?_, r3.trans hm'.2⟩
            have := VR.sl (ρ := ρ ++ [(b, o + off, n)]) h.length 0 (len + m) (len + m) (some i.size) b (o + off) n cap' (ext_last ρ h _ hr.len) (Nat.le_refl _) hcap h3 (fun hk => by cases hk) (fun z' hz' _ => by cases hz'; omega)
            simpa using this
          · have hk' := hr.kill id
            rw [htake] at hvv
            have := good_grow hk'.1 hk'.2 t tx ty e ht hi hz hzs fl' _ len cap' hold hvl hvv hS hvn hok (by omega) hby hmx
            simpa using this
        · cases er
  | _ => simp at er
end
end Go.Proofs.Ytnnkfhlmkaobfaa
end
section
namespace Go.Proofs.Ytnnkfhlmkaobfaa
open Go.RowKit
section
variable {P : Program} {K : Code → CC → Prop}
theorem VR.cellsVL {ρ : Mp} {a : AV} {v : Value} (h : VR ρ a v) (hk : a.known = true) : VL ρ a.cells v.cells := by
  cases h with
  | ag l cs hl hv => exact ⟨hl, hv⟩
  | top v => cases hk
  | b x => exact VL.one (.b x)
  | i k n => exact VL.one (.i k n)
  | s l bs h => exact VL.one (.s l bs h)
  | p id off b o n h => exact VL.one (.p id off b o n h)
  | np => exact VL.one .np
  | sl id off len cap k b o n cap' h h1 h2 h3 h4 h5 => exact VL.one (.sl id off len cap k b o n cap' h h1 h2 h3 h4 h5)
  | sz id off a c h hn => exact VL.one (.sz id off a c h hn)
  | se a c h => exact VL.one (.se a c h)
  | ns => exact VL.one .ns
  | f fn fst cap fst' cap' h0 h hv0 hv => exact VL.one (.f fn fst cap fst' cap' h0 h hv0 hv)
  | nf => exact VL.one .nf
  | ifc t v v' h => exact VL.one (.ifc t v v' h)
  | ni => exact VL.one .ni
  | tu l cs h hv => exact VL.one (.tu l cs h hv)
  | y id b o n h => exact VL.one (.y id b o n h)
theorem foldl_over (off : Nat) : ∀ (vs : List Value) (k : Nat) (C : Array Value), off + k + vs.length ≤ C.size →
    ((vs.zipIdx k).foldl (fun (cs : Array Value) x => cs.setIfInBounds (off + x.2) x.1) C).size = C.size ∧
    ∀ q, ((vs.zipIdx k).foldl (fun (cs : Array Value) x => cs.setIfInBounds (off + x.2) x.1) C)[q]? = if q < off + k then C[q]? else if q < off + k + vs.length then vs[q - (off + k)]? else C[q]?
  | [], k, C, _ => ⟨rfl, fun q => by
      simp only [List.zipIdx_nil, List.foldl_nil, List.length_nil, Nat.add_zero, List.getElem?_nil]
      by_cases h : q < off + k <;> simp [h]⟩
  | v :: vs, k, C, h => by
    rw [List.zipIdx_cons, List.foldl_cons]
    have ih := foldl_over off vs (k + 1) (C.setIfInBounds (off + k) v) (by simp at h ⊢; omega)
    refine ⟨by rw [ih.1]; simp, fun q => ?_⟩
    rw [ih.2 q]
    have hk : off + k < C.size := by simp at h; omega
    rw [Array.getElem?_setIfInBounds]
    by_cases h1 : q < off + k
    · rw [if_pos (by omega), if_neg (by omega), if_pos h1]
    · rw [if_neg h1]
      by_cases h2 : q = off + k
      · subst h2
        rw [if_pos (by omega), if_pos rfl, if_pos hk, if_pos (by simp), Nat.sub_self]
        rfl
      · have e1 : ¬ q < off + (k + 1) := by omega
        rw [if_neg e1]
        by_cases h3 : q < off + (k + 1) + vs.length
        · have h4 : q < off + k + (v :: vs).length := by simp; omega
          rw [if_pos h3, if_pos h4]
          have : q - (off + k) = (q - (off + (k + 1))) + 1 := by omega
          rw [this, List.getElem?_cons_succ]
        · have h4 : ¬ q < off + k + (v :: vs).length := by simp; omega
          have h5 : ¬ off + k = q := fun e => h2 e.symm
          rw [if_neg h3, if_neg h4, if_neg h5]
/-- The parts of a struct, an array or a slice that is built. -/
def PartsOk (ρ : Mp) (place : Nat → Option (Nat × Nat)) (ev : Opd → AV) : List (Nat × Nat × Opd) → List (Nat × Value) → Prop
  | [], [] => True
  | (off, sz, x) :: ps, (i, v) :: vs => place i = some (off, sz) ∧ VR ρ (ev x) v ∧ PartsOk ρ place ev ps vs
  | _, _ => False
theorem fill_ok {ρ : Mp} {place : Nat → Option (Nat × Nat)} {ev : Opd → AV} : ∀ (ps : List (Nat × Nat × Opd)) (vs : List (Nat × Value)) (X : List AV) (C : Array Value) (Y : List AV), PartsOk ρ place ev ps vs → VL ρ X C → fillV ev X ps = some Y → ∃ D, Instr.fill place C vs = some D ∧ VL ρ Y D
  | [], [], X, C, Y, _, hv, e => by
    cases e
    exact ⟨C, rfl, hv⟩
  | [], _ :: _, X, C, Y, h, _, _ => h.elim
  | (off, sz, x) :: ps, [], X, C, Y, h, _, _ => h.elim
  | (off, sz, x) :: ps, (i, v) :: vs, X, C, Y, h, hv, e => by
    obtain ⟨hp, hx, hrest⟩ := h
    simp only [fillV] at e
    split at e
    · rename_i hc
      obtain ⟨h1, h2, h3⟩ := hc
      have hcv := hx.cellsVL h3
      have hsz : v.cells.size = sz := by rw [← hcv.1]; exact h1
      have hC : C.size = X.length := hv.1.symm
      have hf := foldl_over off v.cells.toList 0 C (by simp; omega)
      have hz : v.cells.zipIdx.foldl (fun (cs : Array Value) (x : Value × Nat) => cs.setIfInBounds (off + x.2) x.1) C = (v.cells.toList.zipIdx 0).foldl (fun (cs : Array Value) x => cs.setIfInBounds (off + x.2) x.1) C := by
        rw [← Array.foldl_toList, Array.toList_zipIdx]
      have hvl : VL ρ (over X off (ev x).cells) ((v.cells.toList.zipIdx 0).foldl (fun (cs : Array Value) x => cs.setIfInBounds (off + x.2) x.1) C) := by
        refine ⟨by rw [over_len _ _ _ (by omega), hf.1]; exact hv.1, fun q a c ha hc => ?_⟩
        rw [over_get _ _ _ (by omega)] at ha
        rw [hf.2 q] at hc
        simp only [Nat.add_zero, Array.length_toList, Array.getElem?_toList] at hc
        have hl : (ev x).cells.length = v.cells.size := hcv.1
        by_cases q1 : q < off
        · rw [if_pos q1] at ha hc
          exact hv.2 q a c ha hc
        · rw [if_neg q1] at ha hc
          by_cases q2 : q < off + (ev x).cells.length
          · rw [if_pos q2] at ha
            rw [if_pos (by omega)] at hc
            exact hcv.2 _ a c ha hc
          · rw [if_neg q2] at ha
            rw [if_neg (by omega)] at hc
            exact hv.2 q a c ha hc
      obtain ⟨D, hD, hY⟩ := fill_ok ps vs _ _ Y hrest hvl e
      refine ⟨D, ?_, hY⟩
      have hno : (decide (v.cells.size ≠ sz) || decide (off + v.cells.size > C.size)) = false := by
        simp
        omega
      simp only [Instr.fill, hp]
      rw [← hD, ← hz]
      split
      · rename_i hq
        rw [hno] at hq
        cases hq
      · rfl
    · cases e
theorem ans_bldS {ρ : Mp} (t : TypeId) {fs : Array Field} {i : TypeInfo} {z : Value} (ht : P.underlying t = some (.struct fs)) (hi : P.info? t = some i) (hz : i.zero = some z) {places : Array (Nat × Nat)} (hpl : ∀ w, (fs.mapM fun f => do pure (f.offset, ← sizeOf f.type) : Sem (Array (Nat × Nat))).run P w = .ok places w)
    {ev : Opd → AV} {ps : List (Nat × Nat × Opd)} {parts : Array (Nat × Value)} (hp : PartsOk ρ (places[·]?) ev ps parts.toList) {X Y : List AV} (hX : VL ρ X z.cells) (e : fillV ev X ps = some Y) : Ans P ρ (Instr.build t parts) (.ag Y) := by
  obtain ⟨D, hD, hY⟩ := fill_ok ps parts.toList X z.cells Y hp hX e
  refine Ans.mk (v := .agg D) (fun w => ?_) (vl_agg hY)
  have hpl' := hpl w
  simp only [bind_pure_comp] at hpl'
  simp [Instr.build, zeroValue, typeInfo, hi, hz, run_underlying ht, hpl', hD]
theorem ans_bldA {ρ : Mp} (t e : TypeId) {n : Nat} {i ie : TypeInfo} {z : Value} (ht : P.underlying t = some (.array n e)) (hi : P.info? t = some i) (hz : i.zero = some z) (hie : P.info? e = some ie)
    {ev : Opd → AV} {ps : List (Nat × Nat × Opd)} {parts : Array (Nat × Value)} (hp : PartsOk ρ (fun k => some (k * ie.size, ie.size)) ev ps parts.toList) {X Y : List AV} (hX : VL ρ X z.cells) (er : fillV ev X ps = some Y) : Ans P ρ (Instr.build t parts) (.ag Y) := by
  obtain ⟨D, hD, hY⟩ := fill_ok ps parts.toList X z.cells Y hp hX er
  exact Ans.mk (v := .agg D) (fun w => by simp [Instr.build, zeroValue, typeInfo, hi, hz, run_underlying ht, sizeOf, hie, hD]) (vl_agg hY)
theorem good_bls {ρ : Mp} {h : List AB} {w : World} (hr : Rel K ρ h w) (t e : TypeId) {ie : TypeInfo} {z : Value} (ht : P.underlying t = some (.slice e)) (hie : P.info? e = some ie) (hz : ie.zero = some z) (len : Nat) (hb : len * ie.size ≤ 2 ^ 24) (fl : Bool)
    {ev : Opd → AV} {ps : List (Nat × Nat × Opd)} {parts : Array (Nat × Value)} (hp : PartsOk ρ (fun k => some (k * ie.size, ie.size)) ev ps parts.toList) {X Y : List AV} (hX : VL ρ X ((Array.range (len * ie.size)).map (z.cells[· % z.cells.size]!))) (er : fillV ev X ps = some Y) (hm : len ≤ maxLen) {r : AV × List AB} (en : newB h fl Y (fun n => .sl n 0 len len none) = some r) :
    Good K P ρ h w (Instr.buildSlice t len parts) r := by
  obtain ⟨D, hD, hY⟩ := fill_ok ps parts.toList X _ Y hp hX er
  obtain ⟨v', w', ρ', h1, h2⟩ := good_newRow (P := P) hr e fl hY len len (Nat.le_refl _) hm en
  refine ⟨v', w', ρ', ?_, h2⟩
  rw [← h1]
  have hb' : ¬ (len * ie.size > 2 ^ 24) := by omega
  by_cases h0 : len * ie.size = 0
  · have e0 : ∀ f : Nat → Value, (Array.range (len * ie.size)).map f = #[] := fun f => by rw [h0]; simp
    rw [e0] at hD
    simp only [Instr.buildSlice, Sem.run_bind, run_underlying ht, Result.andThen_ok, sizeOf, typeInfo, run_program, hie, Sem.run_pure, hb', if_false, e0]
    simp [h0, hD]
  · simp only [Instr.buildSlice, Sem.run_bind, run_underlying ht, Result.andThen_ok, sizeOf, typeInfo, run_program, hie, Sem.run_pure, hb', if_false, h0, zeroValue, hz]
    simp [hD]
theorem flat_get (z : List AV) (hz : z ≠ []) : ∀ (c q : Nat), ((List.replicate c z).flatten)[q]? = if q < c * z.length then z[q % z.length]? else none
  | 0, q => by simp
  | c + 1, q => by
    have hp : 0 < z.length := List.length_pos_iff.2 hz
    rw [List.replicate_succ, List.flatten_cons]
    by_cases h : q < z.length
    · rw [List.getElem?_append_left h, if_pos (by rw [Nat.add_mul]; omega), Nat.mod_eq_of_lt h]
    · rw [List.getElem?_append_right (by omega), flat_get z hz c]
      have hm : (q - z.length) % z.length = q % z.length := by
        rw [Nat.mod_eq_sub_mod (by omega : q ≥ z.length)]
      rw [hm, Nat.add_mul, Nat.one_mul]
      by_cases h2 : q - z.length < c * z.length
      · rw [if_pos h2, if_pos (by omega)]
      · rw [if_neg h2, if_neg (by omega)]
theorem zeros_vl {ρ : Mp} {ie : TypeInfo} {z : Value} (hzs : z.cells.size = ie.size) (hs0 : ie.size ≠ 0) {zl : List AV} (hzl : VL ρ zl z.cells) (c : Nat) : VL ρ ((List.replicate c zl).flatten) ((Array.range (c * ie.size)).map (z.cells[· % z.cells.size]!)) := by
  have hne : zl ≠ [] := fun e => by
    subst e
    have := hzl.1
    simp at this
    omega
  have hl : zl.length = ie.size := by rw [hzl.1, hzs]
  refine ⟨by simp [hl], fun q a b ha hb => ?_⟩
  rw [flat_get zl hne] at ha
  split at ha
  · rename_i hq
    rw [hl] at hq ha
    simp only [Array.getElem?_map] at hb
    obtain ⟨q', hq', rfl⟩ := Option.map_eq_some_iff.1 hb
    have : q' = q := by
      obtain ⟨hlt, he⟩ := Array.getElem?_eq_some_iff.1 hq'
      rw [← he]
      simp
    subst this
    have hlt : q' % ie.size < z.cells.size := by rw [hzs]; exact Nat.mod_lt _ (by omega)
    rw [hzs, getElem!_pos z.cells _ hlt]
    exact hzl.2 _ a _ ha (Array.getElem?_eq_getElem hlt)
  · cases ha
theorem good_mks {ρ : Mp} {h : List AB} {w : World} (hr : Rel K ρ h w) (t e : TypeId) {ie : TypeInfo} {z : Value} (ht : P.underlying t = some (.slice e)) (hie : P.info? e = some ie) (hz : ie.zero = some z) (hzs : z.cells.size = ie.size) (hs0 : ie.size ≠ 0) (fl : Bool) {zl : List AV} (hzl : VL ρ zl z.cells)
    {k k' : IntKind} {l c : Int} (h0 : 0 ≤ l) (h1 : l ≤ c) (h2 : (ie.bytes : Int) * c ≤ 2 ^ 47) (h3 : c ≤ maxLen) {r : AV × List AB} (en : newB h fl ((List.replicate c.toNat zl).flatten) (fun n => .sl n 0 l.toNat c.toNat none) = some r) :
    Good K P ρ h w (Instr.makeSlice t (.int k l) (.int k' c)) r := by
  have hY := zeros_vl (ρ := ρ) hzs hs0 hzl c.toNat
  have hcm : c.toNat ≤ maxLen := by omega
  obtain ⟨v', w', ρ', g1, g2⟩ := good_newRow (P := P) hr e fl hY l.toNat c.toNat (by omega) hcm en
  refine ⟨v', w', ρ', ?_, g2⟩
  rw [← g1]
  have wl : IntKind.i64.wrap l = l := IntWalk.i64_in _ (by unfold maxLen at h3; omega)
  have wc : IntKind.i64.wrap c = c := IntWalk.i64_in _ (by unfold maxLen at h3; omega)
  have t1 : ¬ (c < 0) := by omega
  have t2 : ¬ ((ie.bytes : Int) * c > 2 ^ 48) := by omega
  have t3 : ¬ (l < 0) := by omega
  have t4 : ¬ (l > c) := by omega
  have t5 : (281474976710656 < (ie.bytes : Int) * c) = False := by simp; omega
  by_cases hn : c.toNat * ie.size = 0
  · have hc0 : c.toNat = 0 := by
      rcases Nat.mul_eq_zero.1 hn with q | q
      · exact q
      · exact absurd q hs0
    have hz0 : c = 0 := by omega
    subst hz0
    have hl0 : l = 0 := by omega
    subst hl0
    have er0 : Array.range 0 = #[] := rfl
    simp [Instr.makeSlice, run_underlying ht, asInt, asIntOf, typeInfo, hie, sizeOf, wl, er0]
  · have hz1 : z.cells.size = ie.size := hzs
    have hne : ¬ (c.toNat = 0 ∨ ie.size = 0) := fun q => hn (by rcases q with q | q <;> simp [q])
    have ht3 : decide (l < 0) = false := by simpa using h0
    have ht4 : decide (c < l) = false := by simpa using h1
    simp [Instr.makeSlice, run_underlying ht, asInt, asIntOf, typeInfo, hie, sizeOf, wl, wc, zeroValue, hz, t5, t1]
    rw [if_neg (by omega)]
    first | done | (intro hq; exact absurd hq hn) | (rw [if_neg hn])
end
end Go.Proofs.Ytnnkfhlmkaobfaa
end
section
namespace Go.Proofs.Ytnnkfhlmkaobfaa
open Go.RowKit
section
variable {P : Program} {K : Code → CC → Prop}
theorem isStr_iff {x : AV} : x.isStr = true ↔ ∃ l, x = .s l := by
  cases x <;> simp [AV.isStr]
theorem isStr_not {x : AV} (h : x.isStr = false) : ∀ l, x ≠ .s l := fun l e => by
  subst e
  cases h
theorem bytesOf_int : ∀ (cs : List AV) (l : List UInt8), bytesOf cs = some l → ∃ ns : List Int, cs = ns.map (AV.i .u8) ∧ l = ns.map fun n => UInt8.ofNat n.toNat
  | [], l, e => by cases e; exact ⟨[], rfl, rfl⟩
  | x :: cs, l, e => by
    unfold bytesOf at e
    split at e
    · cases ‹x :: cs = []›
    · rename_i n rest heq
      cases heq
      obtain ⟨l', hl', rfl⟩ := Option.map_eq_some_iff.1 e
      obtain ⟨ns, h1, h2⟩ := bytesOf_int cs l' hl'
      exact ⟨n :: ns, by rw [h1]; rfl, by rw [h2]; rfl⟩
    · cases e
theorem foldl_push (ns : List Int) : ∀ (s : ByteArray), (ns.foldl (fun r n => r.push (UInt8.ofNat n.toNat)) s).data.toList = s.data.toList ++ ns.map fun n => UInt8.ofNat n.toNat := by
  induction ns with
  | nil => intro s; simp
  | cons n ns ih =>
    intro s
    rw [List.foldl_cons, ih]
    simp [ByteArray.push]
theorem good_b2s {ρ : Mp} {h : List AB} {w : World} (hr : Rel K ρ h w) (src dst e : TypeId) (hs : P.underlying src = some (.slice e)) (he : P.underlying e = some (.int .u8)) (hd : P.underlying dst = some .string) {x : AV} (hx0 : ∀ l, x ≠ .s l) {vx : Value} (hx : VR ρ x vx) {m : Nat} {cs : List AV} (hsrc : srcV h 1 x = some (m, cs)) {l : List UInt8} (hl : bytesOf cs = some l) :
    Good K P ρ h w (convert src dst vx) (.s l, h) := by
  obtain ⟨ns, rfl, rfl⟩ := bytesOf_int cs l hl
  obtain ⟨news, hS, hvn⟩ := src_of (P := P) hr hsrc hx src hs (.inr ⟨hx0, e, rfl⟩) (by rw [List.all_map]; exact List.all_eq_true.2 fun _ _ => rfl)
  have hnews : news = ns.map (Value.int .u8) := by
    apply List.ext_getElem?
    intro j
    have hlen := hvn.1
    simp only [List.length_map, List.size_toArray] at hlen
    rcases Nat.lt_or_ge j news.length with q | q
    · have h1 : (ns.map (AV.i .u8))[j]? = some (AV.i .u8 (ns[j]'(by omega))) := by
        rw [List.getElem?_map, List.getElem?_eq_getElem (by omega : j < ns.length)]
        rfl
      have h2 := hvn.2 j _ _ h1 (by rw [List.getElem?_toArray]; exact List.getElem?_eq_getElem q)
      rw [List.getElem?_eq_getElem q, List.getElem?_map, List.getElem?_eq_getElem (by omega : j < ns.length)]
      generalize news[j] = u at h2 ⊢
      cases h2
      rfl
    · rw [List.getElem?_eq_none q, List.getElem?_eq_none (by simp; omega)]
  subst hnews
  have hm : ns.length = m := by
    have := hS.newsLen
    simpa using this
  have fin : ∀ (a : Addr) (len c : Nat), len = m → vx = .slice (some a) len c → Good K P ρ h w (convert src dst vx) (.s (ns.map fun n => UInt8.ofNat n.toNat), h) := by
    rintro a len c rfl rfl
    have hc := hS.cells
    simp only [Builtin.firstCells, Nat.mul_one] at hc
    refine ⟨.string (ns.foldl (fun r n => r.push (UInt8.ofNat n.toNat)) ByteArray.empty), w, ρ, ?_, Ext.refl _, hr, .s _ _ ?_, Eff.refl _ _ _⟩
    · rw [run_convert_bytes_string w src dst e _ _ _ hs he hd]
      exact run_bytesToString w a len c ns hc
    · rw [foldl_push]
      rfl
  cases hx with
  | ns =>
    simp only [srcV, Option.some.injEq, Prod.mk.injEq] at hsrc
    have : ns = [] := by simpa using hsrc.2.symm
    subst this
    refine ⟨.string .empty, w, ρ, ?_, Ext.refl _, hr, .s _ _ rfl, Eff.refl _ _ _⟩
    rw [run_convert_bytes_string w src dst e _ _ _ hs he hd]
    rfl
  | se a c hc =>
    simp only [srcV, Option.some.injEq, Prod.mk.injEq] at hsrc
    exact fin a 0 c hsrc.1 rfl
  | sz id off a c hc hn =>
    simp only [srcV, if_true, Option.some.injEq, Prod.mk.injEq] at hsrc
    cases a with
    | none =>
      have : ns = [] := by simpa using hsrc.2.symm
      subst this
      refine ⟨.string .empty, w, ρ, ?_, Ext.refl _, hr, .s _ _ rfl, Eff.refl _ _ _⟩
      rw [run_convert_bytes_string w src dst e _ _ _ hs he hd]
      rfl
    | some a => exact fin a 0 c hsrc.1 rfl
  | sl id off len cap k b o n cap' hρ h1 h2 h3 h4 h5 =>
    simp only [srcV] at hsrc
    split at hsrc
    · rename_i h0
      subst h0
      simp only [Option.some.injEq, Prod.mk.injEq] at hsrc
      exact fin _ 0 cap' hsrc.1 rfl
    obtain ⟨xs, hxs, hsrc⟩ := Option.bind_eq_some_iff.1 hsrc
    split at hsrc
    · simp only [Option.some.injEq, Prod.mk.injEq] at hsrc
      exact fin _ len cap' hsrc.1 rfl
    · cases hsrc
  | s l bs hl => exact absurd rfl (hx0 l)
  | _ => simp [srcV] at hsrc
theorem good_cpy {ρ : Mp} {h : List AB} {w : World} (hr : Rel K ρ h w) (t tx ty e : TypeId) {d : TypeDesc} {i : TypeInfo} (ht : P.underlying t = some (.slice e)) (hi : P.info? e = some i) (hd : P.underlying tx = some d)
    {s x : AV} {vs vx : Value} (hs : VR ρ s vs) (hx : VR ρ x vx) (hty : (∃ l, x = .s l) ∧ d = .string ∨ (∀ l, x ≠ .s l) ∧ ∃ e', d = .slice e') {r : AV × List AB} (er : cpyV h i.size s x = some r) :
    Good K P ρ h w (Builtin.copy_ #[t, tx] ty #[vs, vx]) r := by
  unfold cpyV at er
  obtain ⟨⟨m, ys⟩, hsrc, er⟩ := Option.bind_eq_some_iff.1 er
  simp only at er
  split at er
  case h_2 => cases er
  rename_i id off len cap k _
  split at er
  case isFalse => cases er
  rename_i hml
  obtain ⟨h', hst, rfl⟩ := Option.map_eq_some_iff.1 er
  obtain ⟨fl, xs, hb, hle, hok, _⟩ := stB_some hst
  obtain ⟨news, hS, hvn⟩ := src_of (P := P) hr hsrc hx tx hd hty (one_all hok)
  have hmin : Nat.min m len = m := Nat.min_eq_left hml
  cases hs with
  | sl id off len cap k b o n cap' hρ h1 h2 h3 h4 h5 =>
    obtain ⟨w', g1, g2, g3⟩ := good_stB (P := P) hr hst hρ hvn
    refine ⟨.int .i64 m, w', ρ, ?_, Ext.refl _, g2, .i _ _, g3⟩
    simp [Builtin.copy_, run_underlying ht, sizeOf, typeInfo, hi, hS.len, hmin, hS.cells, g1, goInt]
  | sz id off a c hc hn =>
    have hm0 : m = 0 := by omega
    subst hm0
    have hn0 : news = [] := List.eq_nil_of_length_eq_zero (by have := hS.newsLen; simpa using this)
    subst hn0
    have hy0 : ys = [] := List.eq_nil_of_length_eq_zero (by have := hvn.1; simpa using this)
    subst hy0
    obtain ⟨bo, o', n', hρ, _⟩ := hr.at hb
    obtain ⟨w', g1, g2, g3⟩ := good_stB (P := P) hr hst hρ hvn
    have hw : w' = w := by
      have : (storeCells ⟨bo, o' + off, none⟩ [] 0).run P w = .ok () w := rfl
      rw [this] at g1
      cases g1
      rfl
    subst hw
    refine ⟨.int .i64 (0 : Nat), w', ρ, ?_, Ext.refl _, g2, .i _ _, g3⟩
    cases a with
    | none => simp [Builtin.copy_, run_underlying ht, sizeOf, typeInfo, hi, hS.len, hS.cells, goInt]
    | some a =>
      have e0 : (storeCells a [] 0).run P w' = .ok () w' := rfl
      simp [Builtin.copy_, run_underlying ht, sizeOf, typeInfo, hi, hS.len, hS.cells, goInt, e0]
theorem good_apz {ρ : Mp} {h : List AB} {w : World} (hr : Rel K ρ h w) (t tn ty e : TypeId) {kn : IntKind} {ie : TypeInfo} {z : Value} (ht : P.underlying t = some (.slice e)) (htn : P.underlying tn = some (.int kn)) (hie : P.info? e = some ie) (hz : ie.zero = some z) (hzs : z.cells.size = ie.size) (hs0 : ie.size ≠ 0) (fl : Bool) {zl : List AV} (hzl : VL ρ zl z.cells)
    {k : IntKind} {m : Int} (hm : 0 < m) (hby : m.toNat * ie.bytes ≤ 140737488355328) (hmx : m.toNat ≤ maxLen) {r : AV × List AB} (en : newB h fl ((List.replicate m.toNat zl).flatten) (fun q => .sl q 0 m.toNat m.toNat (some zl.length)) = some r) :
    Good K P ρ h w (Builtin.append_ #[t, tn] ty #[.slice none 0 0, .int k m]) r := by
  obtain ⟨hok, rfl⟩ := newB_some en
  have hrun := Lib.run_append_nil_zeros (P := P) w t tn ty e ie z k kn ht htn hie hz m.toNat (by omega) (by omega) (by unfold maxLen at hmx; omega) (by omega)
  have hme : ((m.toNat : Nat) : Int) = m := by omega
  rw [hme] at hrun
  have hge := grownCap_ge w m.toNat 0 e
  have hle := grownCap_le_maxLen w m.toNat 0 e hmx
  have hl : zl.length = ie.size := by rw [hzl.1, hzs]
  have hY : VL ρ ((List.replicate m.toNat zl).flatten) (Builtin.zeroCells z.cells m.toNat) := by
    have := zeros_vl (ρ := ρ) hzs hs0 hzl m.toNat
    rw [← hzs] at this
    exact this
  have hnew := new_rel hr.drew e fl (rest := Builtin.zeroCells z.cells (grownCap w m.toNat 0 e - m.toNat)) (hY.wr hok)
  refine ⟨_, _, _, hrun, Ext.push _ _, hnew.1, ?_, (Eff.drew ρ h w).trans hnew.2⟩
  have := VR.sl (ρ := ρ ++ [(w.drew.heap.size, 0, (Builtin.zeroCells z.cells m.toNat ++ Builtin.zeroCells z.cells (grownCap w m.toNat 0 e - m.toNat)).size)]) h.length 0 m.toNat m.toNat (some zl.length) w.heap.size 0 _ (grownCap w m.toNat 0 e) (ext_last ρ h _ hr.len) (Nat.le_refl _) hge hle (fun hk => by cases hk) (fun z' hz' _ => by
    cases hz'
    simp only [Array.size_append, size_zeroCells, hzs, hl]
    have hq : m.toNat * ie.size + (grownCap w m.toNat 0 e - m.toNat) * ie.size = grownCap w m.toNat 0 e * ie.size := by rw [← Nat.add_mul, Nat.add_sub_cancel' hge]
    omega)
  simpa using this
/-- Bytes that an entry of the library reads. -/
theorem run_loadBytes (w : World) (b : Nat) : ∀ (ns : List Int) (i : Nat) (acc : ByteArray), (∀ (j : Nat) u, ns[j]? = some u → w.cell? ⟨b, i + j, none⟩ = some (.int .u8 u)) →
    (Extern.Bytes.loadBytes ⟨b, i, none⟩ ns.length acc).run P w = .ok (ns.foldl (fun r n => r.push (UInt8.ofNat n.toNat)) acc) w
  | [], _, _, _ => rfl
  | n :: ns, i, acc, h => by
    have h0 := h 0 n rfl
    rw [Nat.add_zero] at h0
    have ih := run_loadBytes w b ns (i + 1) (acc.push (UInt8.ofNat n.toNat)) (fun j u hu => by
      rw [show i + 1 + j = i + (j + 1) by omega]
      exact h (j + 1) u (by simpa using hu))
    have hadd : (⟨b, i, none⟩ : Addr).add 1 = ⟨b, i + 1, none⟩ := by unfold Addr.add; split <;> simp_all
    simp only [List.length_cons, Extern.Bytes.loadBytes, List.foldl_cons]
    have hl : (load (⟨b, i, none⟩ : Addr)).run P w = .ok (.int .u8 n) w := by rw [run_load, h0]
    rw [hadd, Sem.run_bind, hl]
    exact ih
theorem run_bytesOf {ρ : Mp} {h : List AB} {w : World} (hr : Rel K ρ h w) {x : AV} {vx : Value} (hx : VR ρ x vx) {m : Nat} {cs : List AV} (hsrc : srcV h 1 x = some (m, cs)) {l : List UInt8} (hl : bytesOf cs = some l) :
    ∃ bs : ByteArray, (Extern.Bytes.bytesOf vx).run P w = .ok bs w ∧ bs = ⟨l.toArray⟩ := by
  obtain ⟨ns, rfl, rfl⟩ := bytesOf_int cs l hl
  have nil : ns.map (AV.i .u8) = [] → ns = [] := fun e => by simpa using e
  cases hx with
  | ns =>
    simp only [srcV, Option.some.injEq, Prod.mk.injEq] at hsrc
    obtain rfl := nil hsrc.2.symm
    exact ⟨.empty, rfl, rfl⟩
  | se a c hc =>
    simp only [srcV, Option.some.injEq, Prod.mk.injEq] at hsrc
    obtain rfl := nil hsrc.2.symm
    exact ⟨.empty, rfl, rfl⟩
  | s l bs h =>
    subst h
    simp only [srcV, if_true, Option.some.injEq, Prod.mk.injEq] at hsrc
    refine ⟨bs, rfl, ?_⟩
    have h2 := hsrc.2
    have key : ∀ (us : List UInt8) (zs : List Int), us.map (fun b => AV.i .u8 (b.toNat : Int)) = zs.map (AV.i .u8) → zs.map (fun n => UInt8.ofNat n.toNat) = us := by
      intro us
      induction us with
      | nil => intro zs e; cases zs with
        | nil => rfl
        | cons z zs => simp at e
      | cons u us ih =>
        intro zs e
        cases zs with
        | nil => simp at e
        | cons z zs =>
          simp only [List.map_cons, List.cons.injEq, AV.i.injEq, true_and] at e
          rw [List.map_cons, ih zs e.2, ← e.1]
          simp
    rw [key _ _ h2]
  | sz id off a c hc hn =>
    simp only [srcV, if_true, Option.some.injEq, Prod.mk.injEq] at hsrc
    obtain rfl := nil hsrc.2.symm
    cases a <;> exact ⟨.empty, rfl, rfl⟩
  | sl id off len cap k b o n cap' hρ h1 h2 h3 h4 h5 =>
    simp only [srcV] at hsrc
    split at hsrc
    · rename_i h0
      subst h0
      simp only [Option.some.injEq, Prod.mk.injEq] at hsrc
      obtain rfl := nil hsrc.2.symm
      exact ⟨.empty, rfl, rfl⟩
    obtain ⟨xs, hxs, hsrc⟩ := Option.bind_eq_some_iff.1 hsrc
    split at hsrc
    · rename_i hle
      simp only [Option.some.injEq, Prod.mk.injEq, Nat.mul_one] at hsrc hle
      obtain ⟨vs, g1, g2, g3⟩ := hr.win hxs hρ off len hle
      rw [hsrc.2] at g3
      have hlen := g3.1
      simp only [List.length_map, List.size_toArray] at hlen
      have hload := run_loadBytes (P := P) w b ns (o + off) .empty (fun j u hu => by
        have hj : j < ns.length := (List.getElem?_eq_some_iff.1 hu).1
        have h1 : (ns.map (AV.i .u8))[j]? = some (AV.i .u8 u) := by rw [List.getElem?_map, hu]; rfl
        have h2 := g3.2 j _ vs[j] h1 (by rw [List.getElem?_toArray]; exact List.getElem?_eq_getElem (by omega))
        have h3 := g2 j vs[j] (List.getElem?_eq_getElem (by omega))
        have hadd : (⟨b, o + off, none⟩ : Addr).add j = ⟨b, o + off + j, none⟩ := by unfold Addr.add; split <;> simp_all
        rw [hadd] at h3
        generalize vs[j] = z at h2 h3
        cases h2
        exact h3)
      have hn : ns.length = len := by omega
      rw [hn] at hload
      refine ⟨_, hload, ?_⟩
      apply ByteArray.ext
      apply Array.ext'
      rw [foldl_push]
      rfl
    · cases hsrc
  | _ => cases hsrc
theorem find_cmp (fn : Func) (h : fn.name = "internal/bytealg.Compare" ∨ fn.name = "internal/bytealg.abigen_runtime_cmpstring") (ho : fn.origin = "") : Extern.findNext fn = none ∧ Extern.find fn = some Extern.BytealgCompare.compare := by
  have n0 : List.lookup "" Extern.allNextRows = none := by kernel_rfl
  have n1 : List.lookup "internal/bytealg.Compare" Extern.allNextRows = none := by kernel_rfl
  have n2 : List.lookup "internal/bytealg.abigen_runtime_cmpstring" Extern.allNextRows = none := by kernel_rfl
  have g1 : List.lookup "internal/bytealg.Compare" Extern.allGenericRows = none := by kernel_rfl
  have g2 : List.lookup "internal/bytealg.abigen_runtime_cmpstring" Extern.allGenericRows = none := by kernel_rfl
  have t1 : List.lookup "internal/bytealg.Compare" Extern.allTypedRows = none := by kernel_rfl
  have t2 : List.lookup "internal/bytealg.abigen_runtime_cmpstring" Extern.allTypedRows = none := by kernel_rfl
  have r1 : List.lookup "internal/bytealg.Compare" Extern.allRows = some Extern.BytealgCompare.compare := by kernel_rfl
  have r2 : List.lookup "internal/bytealg.abigen_runtime_cmpstring" Extern.allRows = some Extern.BytealgCompare.compare := by kernel_rfl
  unfold Extern.findNext Extern.find
  rcases h with h | h
  · simp only [h, ho, n0, n1, g1, t1, r1]
    exact ⟨rfl, rfl⟩
  · simp only [h, ho, n0, n2, g2, t2, r2]
    exact ⟨rfl, rfl⟩
theorem good_bcmp {ρ : Mp} {h : List AB} {w : World} (hr : Rel K ρ h w) {g : FuncId} {fn : Func} (hf : P.funcs[g]? = some fn) (hname : fn.name = "internal/bytealg.Compare" ∨ fn.name = "internal/bytealg.abigen_runtime_cmpstring") (ho : fn.origin = "") (hb : fn.body.isNone = true)
    {x y : AV} {vx vy : Value} (hx : VR ρ x vx) (hy : VR ρ y vy) {r : AV × List AB}
    (er : ((srcV h 1 x).bind fun (_, xs) => (srcV h 1 y).bind fun (_, ys) => (bytesOf xs).bind fun l => (bytesOf ys).map fun m => (AV.i .i64 (Extern.BytealgCompare.cmp ⟨l.toArray⟩ ⟨m.toArray⟩), h)) = some r) :
    ∃ v', (callFunc g #[vx, vy]).run P w = .ok (.value v') w ∧ VR ρ r.1 v' ∧ r.2 = h := by
  obtain ⟨⟨m1, xs⟩, s1, er⟩ := Option.bind_eq_some_iff.1 er
  obtain ⟨⟨m2, ys⟩, s2, er⟩ := Option.bind_eq_some_iff.1 er
  obtain ⟨l, b1, er⟩ := Option.bind_eq_some_iff.1 er
  obtain ⟨m, b2, rfl⟩ := Option.map_eq_some_iff.1 er
  obtain ⟨B1, e1, rfl⟩ := run_bytesOf (P := P) hr hx s1 b1
  obtain ⟨B2, e2, rfl⟩ := run_bytesOf (P := P) hr hy s2 b2
  obtain ⟨f1, f2⟩ := find_cmp fn hname ho
  refine ⟨.int .i64 (Extern.BytealgCompare.cmp ⟨l.toArray⟩ ⟨m.toArray⟩), ?_, .i _ _, rfl⟩
  rw [run_callFunc_extern hf (by rcases hname with h | h <;> rw [h] <;> decide) hb f1 f2]
  have : (Extern.BytealgCompare.compare #[vx, vy]).run P w = .ok (.int .i64 (Extern.BytealgCompare.cmp ⟨l.toArray⟩ ⟨m.toArray⟩)) w := by
    change Sem.run P (do pure (goInt (Extern.BytealgCompare.cmp (← Extern.Bytes.bytesOf vx) (← Extern.Bytes.bytesOf vy)))) w = _
    simp [e1, e2, goInt]
  rw [this]
  rfl
theorem good_clr {ρ : Mp} {h : List AB} {w : World} (hr : Rel K ρ h w) (t ty e : TypeId) (ht : P.underlying t = some (.slice e)) {ie : TypeInfo} (hie : P.info? e = some ie) {z : Value} (hz : ie.zero = some z) (hzs : z.cells.size = ie.size) (hs0 : ie.size ≠ 0) {zl : List AV} (hzl : VL ρ zl z.cells)
    {x : AV} {r : AV × List AB} (er : (match x with
      | .ns => some (AV.tu [], h)
      | .se => some (.tu [], h)
      | .sl id off len _ _ => if len = 0 then some (.tu [], h) else (stB h id off ((List.replicate len zl).flatten)).map (.tu [], ·)
      | _ => none) = some r) {vx : Value} (hx : VR ρ x vx) : Good K P ρ h w (Builtin.clear_ #[t] ty #[vx]) r := by
  have u : VR ρ (.tu []) (.tuple #[]) := .tu [] #[] rfl (fun j a c h => by simp at h)
  cases hx with
  | ns =>
    cases er
    exact ⟨.tuple #[], w, ρ, by simp [Builtin.clear_, run_underlying ht], Ext.refl _, hr, u, Eff.refl _ _ _⟩
  | se a c hc =>
    cases er
    exact ⟨.tuple #[], w, ρ, by simp [Builtin.clear_, run_underlying ht], Ext.refl _, hr, u, Eff.refl _ _ _⟩
  | sz id off a c hc hn =>
    simp only [if_true] at er
    cases er
    exact ⟨.tuple #[], w, ρ, by cases a <;> simp [Builtin.clear_, run_underlying ht], Ext.refl _, hr, u, Eff.refl _ _ _⟩
  | sl id off len cap k b o n cap' hρ h1 h2 h3 h4 h5 =>
    simp only at er
    split at er
    · rename_i hl
      subst hl
      cases er
      exact ⟨.tuple #[], w, ρ, by simp [Builtin.clear_, run_underlying ht], Ext.refl _, hr, u, Eff.refl _ _ _⟩
    · rename_i hl
      obtain ⟨h', hst, rfl⟩ := Option.map_eq_some_iff.1 er
      have hY := zeros_vl (ρ := ρ) hzs hs0 hzl len
      obtain ⟨w', g1, g2, g3⟩ := good_stB (P := P) hr hst hρ (vs := ((Array.range (len * ie.size)).map (z.cells[· % z.cells.size]!)).toList) (by rw [Array.toArray_toList]; exact hY)
      refine ⟨.tuple #[], w', ρ, ?_, Ext.refl _, g2, u, g3⟩
      obtain ⟨q, rfl⟩ : ∃ q, len = q + 1 := ⟨len - 1, by omega⟩
      have hzc : Builtin.zeroCells z.cells (q + 1) = (Array.range ((q + 1) * ie.size)).map (z.cells[· % z.cells.size]!) := by
        rw [← hzs]
        rfl
      rw [← hzc] at g1
      simp [Builtin.clear_, run_underlying ht, zeroValue, typeInfo, hie, hz, g1]
  | _ => cases er
end
end Go.Proofs.Ytnnkfhlmkaobfaa
end
