/- The writer's side of layer 4, walked: how many bytes a number has, the form of a number and of bytes, the writer. -/
import Derived.Test.YtpagolhlbceegaaRows
import Derived.Test.YtpagolhlbceegaaMem
namespace Go.Proofs.Ytpagolhlbceegaa
open Go.RowKit

/-- How many bytes follow the first one of a number. -/
def sizeFrom : Nat → Int → Nat → Nat
  | 0, _, k => k
  | f + 1, n, k => if 0 < n / 2 ^ (8 * k) then sizeFrom f n (k + 1) else k
def sizeOfNum (n : Int) : Nat := if n < 192 then 0 else sizeFrom 7 n 1
theorem sizeFrom_bd (n : Int) : ∀ f k, k ≤ sizeFrom f n k ∧ sizeFrom f n k ≤ k + f
  | 0, k => by simp [sizeFrom]
  | f + 1, k => by
    have := sizeFrom_bd n f (k + 1)
    unfold sizeFrom
    split <;> omega
theorem sizeOfNum_bd (n : Int) : sizeOfNum n ≤ 8 := by
  have := sizeFrom_bd n 7 1
  unfold sizeOfNum
  split <;> omega

set_option maxHeartbeats 400000 in
theorem size_any (n : Int) (w : World) :
    Calls Try.prog 56 #[.int .i64 n] w fun r w' => r = .returned (.int .i64 (sizeOfNum n)) ∧ w = w' := by
  by_cases hn : n < 192
  · have hr : sizeOfNum n = 0 := by unfold sizeOfNum; rw [if_pos hn]
    have HR := Lib.hid hr
    clear hr
    go_enter Try.func56, Try.ntmps56
    go_wp2
    go_ret
    exact ⟨ret_int (by rw [HR.out]; rfl), rfl⟩
  · have hr : sizeOfNum n = sizeFrom 7 n 1 := by unfold sizeOfNum; rw [if_neg hn]
    have HR := Lib.hid hr
    have h0 : decide (n < 192) = false := by simp; omega
    clear hr
    go_enter Try.func56, Try.ntmps56
    go_wp2
    go_loop [3] (fun k => ∃ j : Nat, 1 ≤ j ∧ j ≤ 8 ∧ k = .int .i64 j ∧ sizeFrom 7 n 1 = sizeFrom (8 - j) n j) (fun k => (8 - intOf k).toNat)
    case atStart => exact ⟨1, by omega, by omega, rfl, rfl⟩
    case round =>
      obtain ⟨j, hj1, hj8, rfl, hs⟩ := hrel
      have HS := Lib.hid hs
      clear hs
      by_cases hlt : j < 8
      · have hlt' : decide ((j : Int) < 8) = true := by simp; omega
        by_cases hd : 0 < n / 2 ^ (8 * j)
        · go_wp2
          go_round
          case rel => exact ⟨j + 1, by omega, by omega, by go_num, by rw [HS.out, show 8 - j = (8 - (j + 1)) + 1 from by omega, sizeFrom, if_pos hd]⟩
          case measure => simp [intOf]; omega
        · go_wp2
          go_ret
          exact ⟨ret_int (by rw [HR.out, HS.out, show 8 - j = (8 - (j + 1)) + 1 from by omega, sizeFrom, if_neg (by omega)]), rfl⟩
      · go_wp2
        go_ret
        exact ⟨ret_int (by rw [HR.out, HS.out, show 8 - j = 0 from by omega, sizeFrom]), rfl⟩

def byteV (b : UInt8) : Value := .int .u8 b.toNat
def bytesV (l : List UInt8) : List Value := l.map byteV
theorem bytesV_append (a b : List UInt8) : bytesV (a ++ b) = bytesV a ++ bytesV b := List.map_append
theorem bytesV_length (a : List UInt8) : (bytesV a).length = a.length := List.length_map _
theorem bytesV_one (a : List UInt8) : ∀ u ∈ bytesV a, u.oneCell' = true := by
  intro u hu
  obtain ⟨b, _, rfl⟩ := List.mem_map.1 hu
  rfl
theorem byteV_mod (x : Int) : Value.int .u8 (x % 256) = byteV (UInt8.ofInt x) := by
  unfold byteV
  congr 1
  simp only [UInt8.ofInt, UInt8.toNat_ofNat']
  omega
theorem byteV_of (x : Int) (h0 : 0 ≤ x) (h1 : x < 256) : Value.int .u8 x = byteV (UInt8.ofInt x) := by
  rw [← byteV_mod, Int.emod_eq_of_lt h0 h1]
/-- The bytes of a number. -/
def numByte (n : Int) (k i : Nat) : UInt8 := UInt8.ofInt (n / 2 ^ (8 * (k - 1 - i)))
def encNum (n : Int) : List UInt8 :=
  if sizeOfNum n = 0 then [UInt8.ofInt n] else UInt8.ofInt (191 + sizeOfNum n) :: (List.range (sizeOfNum n)).map (numByte n (sizeOfNum n))

/-- v' is what v was, with elements more behind, or a new row. -/
def Grew (w w' : World) (v v' : Value) : Prop := Kept (IsB v.ownBlock) w w' ∧ (v'.ownBlock = v.ownBlock ∨ ∃ k, v'.ownBlock = some k ∧ w.heap.size ≤ k)
theorem Grew.refl (w : World) (v : Value) : Grew w w v v := ⟨Kept.refl _ _, .inl rfl⟩
theorem Grew.trans {a b c : World} {v v' v'' : Value} (h : Grew a b v v') (k : Grew b c v' v'') : Grew a c v v'' := by
  obtain ⟨h1, h2⟩ := h
  obtain ⟨k1, k2⟩ := k
  have hsz := h1.size
  refine ⟨h1.step k1 fun i hi hs => ?_, ?_⟩
  · unfold IsB at hs ⊢
    rcases h2 with h2 | ⟨k, h2, h3⟩
    · rw [← h2]; exact hs
    · rw [h2] at hs; cases hs; omega
  · rcases k2 with k2 | ⟨m, k2, k3⟩
    · rcases h2 with h2 | ⟨m, h2, h3⟩
      · exact .inl (k2.trans h2)
      · exact .inr ⟨m, k2.trans h2, h3⟩
    · exact .inr ⟨m, k2, by omega⟩
theorem Grew.kept {a b c : World} {v v' : Value} (h : Grew a b v v') (k : Kept NoS b c) : Grew a c v v' := ⟨h.1.step k fun _ _ e => e.elim, h.2⟩
theorem Grew.alloc {a b : World} {v v' : Value} (h : Grew a b v v') (o : Obj) : Grew a (b.alloc o) v v' := ⟨h.1.alloc o, h.2⟩
/-- A slice of bytes of the call's own. -/
def OwnB (w : World) (v : Value) (bs : List UInt8) : Prop := w.ownsRow 0 5 1 v bs.length (bytesV bs)
theorem OwnB.kept {S : Nat → Prop} {w w' : World} {v : Value} {bs : List UInt8} (h : OwnB w v bs) (hk : Kept S w w') (hn : ∀ k, v.ownBlock = some k → ¬ S k) : OwnB w' v bs := owns_kept h hk hn
theorem OwnB.keptN {w w' : World} {v : Value} {bs : List UInt8} (h : OwnB w v bs) (hk : Kept NoS w w') : OwnB w' v bs := owns_kept h hk fun _ _ e => e
theorem OwnB.alloc {w : World} {v : Value} {bs : List UInt8} (h : OwnB w v bs) (o : Obj) : OwnB (w.alloc o) v bs := World.ownsRow.alloc h o
theorem OwnB.nil (w : World) : OwnB w (.slice none 0 0) [] := World.ownsRow_nil w 0 _ 1
/-- A slice that reads as bytes. -/
def RdB (w : World) (v : Value) (bs : List UInt8) : Prop := Sl w v bs.length (bytesV bs)
theorem OwnB.rd {w : World} {v : Value} {bs : List UInt8} (h : OwnB w v bs) : RdB w v bs := Sl.ofOwns h
theorem RdB.form {w : World} {v : Value} {bs : List UInt8} (h : RdB w v bs) : ∃ ao cap, v = .slice ao bs.length cap := by
  rcases h with ⟨⟨a, h1⟩, h2, _⟩ | ⟨b, off, cap, h1, _⟩
  · exact ⟨a, 0, by rw [h1, h2]⟩
  · exact ⟨_, cap, h1⟩
theorem RdB.kept {S : Nat → Prop} {w w' : World} {v : Value} {bs : List UInt8} (h : RdB w v bs) (hk : Kept S w w') (hn : ∀ k, v.ownBlock = some k → ¬ S k) : RdB w' v bs := Sl.kept h hk hn
theorem RdB.keptN {w w' : World} {v : Value} {bs : List UInt8} (h : RdB w v bs) (hk : Kept NoS w w') : RdB w' v bs := Sl.below h hk

theorem Try.infoByte : (Try.prog.info? 5).map (fun i => (i.zero, i.size, i.bytes)) = some (some (.int .u8 0), 1, 1) := by kernel_rfl
/-- What is appended: bytes. -/
def SrcB (tx : TypeId) (w : World) (x : Value) (ns : List UInt8) : Prop := Src Try.prog 1 tx x ns.length (bytesV ns) w
theorem RdB.src {w : World} {v : Value} {bs : List UInt8} (h : RdB w v bs) : SrcB 28 w v bs :=
  Sl.src Try.underlying28 h (by rw [bytesV_length, Nat.mul_one]) (bytesV_one bs)
theorem srcB_str (w : World) (s : ByteArray) : SrcB 9 w (.string s) s.data.toList := by
  have := Src.ofString (P := Try.prog) w (tx := 9) Try.underlying9 s
  exact this
theorem srcB_all (w : World) (d : List UInt8) (n : Nat) (e : TypeId) (hn : d.length = n) (hm : n ≤ maxLen) : SrcB 28 (w.alloc (.cells (bytesV d).toArray e)) (.slice (some ⟨w.heap.size, 0, none⟩) n n) d := by
  subst hn
  refine RdB.src (bs := d) (.inr ⟨_, 0, d.length, rfl, Nat.le_refl _, hm, fun i u hu => ?_⟩)
  rw [(Blk.new w _ _).cell]
  simpa using hu
theorem srcB_new (w : World) (c : UInt8) : SrcB 28 (w.alloc (.cells #[byteV c] 5)) (.slice (some ⟨w.heap.size, 0, none⟩) 1 1) [c] := by
  refine RdB.src (bs := [c]) (.inr ⟨_, 0, 1, rfl, Nat.le_refl _, by decide, fun i u hu => ?_⟩)
  rw [(Blk.new w _ _).cell]
  simpa [bytesV] using hu
theorem wpList_appB {w : World} {ops : Array Oper} {rest : List Oper} {o : Oper} {a : Act} {Q : Exit → Act → World → Prop} (hgd : o.guard = none) (s x : Operand) (tx : TypeId)
    (ho : o.op = .call { callee := .builtin .append, args := #[s, x], argTypes := #[28, tx] })
    (v : Value) (bs : List UInt8) (hs : a.eval s = v) (hown : OwnB w v bs) (xv : Value) (ns : List UInt8) (hx : a.eval x = xv) (hsrc : SrcB tx w xv ns)
    (hb : bs.length + ns.length ≤ 70368744177664)
    (h : ∀ v' w', OwnB w' v' (bs ++ ns) → Grew w w' v v' → wpList Try.prog ops Q rest (a.put o.dst v') w') : wpList Try.prog ops Q (o :: rest) a w := by
  obtain ⟨i0, hi, hz0, hz1, hz2⟩ := info_parts Try.infoByte
  refine wpList_app w hgd s x 28 tx ho 0 5 i0 (.int .u8 0) 1 1 Try.underlying28 hi hz0 hz1 hz2 rfl v bs.length (bytesV bs) hs hown xv ns.length (bytesV ns) hx hsrc
    (by simp only [maxLen]; omega) (by omega) (Nat.zero_le _) fun v' w' h1 h2 h3 => h v' w' ?_ ⟨h2, ?_⟩
  · unfold OwnB; rw [List.length_append, bytesV_append]; exact h1
  · rcases h3 with h3 | ⟨k, h3, h4, _⟩
    · exact .inl h3
    · exact .inr ⟨k, h3, h4⟩

def FormPost (w : World) (v : Value) (bs enc : List UInt8) (ok : Bool) (e : Ending) (w' : World) : Prop :=
  ∃ v', e = .returned (.tuple #[v', .bool ok]) ∧ OwnB w' v' (bs ++ enc) ∧ Grew w w' v v'

theorem ta_int (v : Value) (w : World) : (Instr.typeAssert (.iface 3 v) 20 3 true).run Try.prog w = .ok (.tuple #[v, .bool true]) w := run_ta_yes _ _ Try.underlying3 (by simp) v w

set_option maxRecDepth 100000 in
set_option maxHeartbeats 400000 in
theorem form_num (n : Int) (v : Value) (bs : List UInt8) (w : World) (hl : -9223372036854775808 ≤ n) (hu : n ≤ 9223372036854775807) (hown : OwnB w v bs) (hb : bs.length ≤ 1099511627776) :
    Calls Try.prog 61 #[v, .iface 3 (.int .i64 n)] w (FormPost w v bs (encNum n) (decide (0 ≤ n))) := by
  have hta := ta_int (.int .i64 n)
  by_cases hn : n < 192
  · have hr : sizeOfNum n = 0 := by unfold sizeOfNum; rw [if_pos hn]
    have hk : ((sizeOfNum n : Int) == 0) = true := by simp [hr]
    have HR := Lib.hid hr
    clear hr
    go_enter Try.func61, Try.ntmps61
    go_wp2_with (first | (go_at_call 56; refine (size_any n _).mono ?_; rintro e w' ⟨rfl, rfl⟩) | (at_builtin; refine wpList_appB rfl (.tmp 25) (.tmp 28) _ rfl v bs rfl (hown.alloc _) _ [UInt8.ofInt n] rfl ?_ ?_ ?_; rotate_left 2; intro v1 w1 ho1 hg1))
    · go_ret2
      exact ⟨v1, rfl, by unfold encNum; rw [if_pos HR.out]; exact ho1, Grew.trans ((Grew.refl w v).alloc _) hg1⟩
    · rw [byteV_mod]
      exact srcB_new w _
    · simp; omega
  · have hk0 : sizeOfNum n ≠ 0 := by
      have := sizeFrom_bd n 7 1
      unfold sizeOfNum; rw [if_neg hn]; omega
    have hk8 := sizeOfNum_bd n
    have hk : ((sizeOfNum n : Int) == 0) = false := by simp [hk0]
    have HE : Hid (encNum n = UInt8.ofInt (191 + sizeOfNum n) :: (List.range (sizeOfNum n)).map (numByte n (sizeOfNum n))) := by unfold encNum; rw [if_neg hk0]; exact rfl
    have hk1 : 1 ≤ sizeOfNum n := by omega
    clear hk0
    go_enter Try.func61, Try.ntmps61
    go_wp2_with (first | (go_at_call 56; refine (size_any n _).mono ?_; rintro e w' ⟨rfl, rfl⟩) | (at_builtin; refine wpList_appB rfl (.tmp 32) (.tmp 36) _ rfl v bs rfl (hown.alloc _) _ [UInt8.ofInt (191 + sizeOfNum n)] rfl ?_ ?_ ?_; rotate_left 2; intro v1 w1 ho1 hg1))
    · have hg1' : Grew w w1 v v1 := Grew.trans ((Grew.refl w v).alloc _) hg1
      clear hg1
      go_loopw [0, 8, 39] (fun s _ c wr => ∃ j : Nat, j ≤ sizeOfNum n ∧ c = .int .i64 j ∧ OwnB wr s (bs ++ [UInt8.ofInt (191 + sizeOfNum n)] ++ ((List.range j).map (numByte n (sizeOfNum n)))) ∧ Grew w wr v s) (fun _ _ c _ => (sizeOfNum n - intOf c).toNat)
      case atStart => exact ⟨0, by omega, rfl, by simpa using ho1, hg1'⟩
      case round =>
        obtain ⟨j, hj, rfl, ho2, hg2⟩ := hrel
        by_cases hlt : j < sizeOfNum n
        · go_wp2_with (at_builtin; refine wpList_appB rfl (.tmp 42) (.tmp 51) _ rfl u0 _ rfl (ho2.alloc _) _ [numByte n (sizeOfNum n) j] rfl ?_ ?_ ?_; rotate_left 2; intro v2 w2 ho3 hg3)
          · have hg4 : Grew w w2 v v2 := Grew.trans (hg2.alloc _) hg3
            refine ⟨⟨j + 1, by omega, by go_num, ?_, hg4⟩, by simp [intOf]; omega⟩
            rw [List.range_succ, List.map_append, ← List.append_assoc]
            exact ho3
          · rw [byteV_mod]
            exact srcB_new wr _
          · simp; omega
        · go_wp2
          go_ret2
          have e : j = sizeOfNum n := by omega
          refine ⟨u0, by rw [decide_eq_true (by omega : 0 ≤ n)]; rfl, ?_, hg2⟩
          rw [HE.out, ← e, ← List.singleton_append, ← List.append_assoc, e]
          rw [e] at ho2
          exact ho2
    · rw [byteV_of _ (by omega) (by omega)]
      exact srcB_new w _
    · simp; omega

theorem zero_int (w : World) : (zeroValue 3).run Try.prog w = .ok (.int .i64 0) w := by kernel_rfl
theorem zero_str (w : World) : (zeroValue 9).run Try.prog w = .ok (.string ⟨#[]⟩) w := by kernel_rfl
theorem zero_bytes (w : World) : (zeroValue 28).run Try.prog w = .ok (.slice none 0 0) w := by kernel_rfl
theorem zero_id (w : World) : (zeroValue 40).run Try.prog w = .ok (.agg (Array.replicate 32 (.int .u8 0))) w := by kernel_rfl
theorem zero_dot (w : World) : (zeroValue 42).run Try.prog w = .ok (.agg #[.int .i64 0, .int .i64 0]) w := by kernel_rfl
theorem zero_ints (w : World) : (zeroValue 43).run Try.prog w = .ok (.slice none 0 0) w := by kernel_rfl

theorem encNum_len (n : Int) : (encNum n).length ≤ 9 := by
  have := sizeOfNum_bd n
  unfold encNum
  split <;> simp; omega

set_option maxRecDepth 100000 in
set_option maxHeartbeats 400000 in
theorem form_str (s : ByteArray) (v : Value) (bs : List UInt8) (w : World) (hs : s.size ≤ 1099511627776) (hown : OwnB w v bs) (hb : bs.length ≤ 1099511627776) :
    Calls Try.prog 61 #[v, .iface 9 (.string s)] w (FormPost w v bs (encNum s.size ++ s.data.toList) true) := by
  have hta := run_ta_yes 20 9 Try.underlying9 (by simp) (.string s)
  have hta1 := run_ta_no 20 9 3 Try.underlying3 (by simp) (by decide) zero_int (.string s)
  have hlen := encNum_len s.size
  go_enter Try.func61, Try.ntmps61
  go_wp2_with (first | (go_at_call 61; refine (form_num s.size v bs _ (by omega) (by omega) hown hb).mono ?_; rintro e w1 ⟨v1, rfl, ho1, hg1⟩) | (at_builtin; refine wpList_appB rfl (.tmp 66) (.tmp 67) _ rfl _ (bs ++ encNum s.size) rfl ho1 _ s.data.toList rfl (srcB_str _ s) ?_ ?_; rotate_left; intro v2 w2 ho2 hg2))
  · go_ret2
    exact ⟨v2, rfl, by rw [← List.append_assoc]; exact ho2, Grew.trans hg1 hg2⟩
  · have : s.data.toList.length = s.size := by simp
    simp only [List.length_append]; omega

set_option maxRecDepth 100000 in
set_option maxHeartbeats 400000 in
theorem form_bytes (x : Value) (xs : List UInt8) (v : Value) (bs : List UInt8) (w : World) (hx : RdB w x xs) (hd : ∀ k, x.ownBlock = some k → v.ownBlock ≠ some k) (hs : xs.length ≤ 1099511627776) (hown : OwnB w v bs) (hb : bs.length ≤ 1099511627776) :
    Calls Try.prog 61 #[v, .iface 28 x] w (FormPost w v bs (encNum xs.length ++ xs) true) := by
  obtain ⟨ao, cap, rfl⟩ := hx.form
  have hta := run_ta_yes 20 28 Try.underlying28 (by simp) (.slice ao xs.length cap)
  have hta1 := run_ta_no 20 28 3 Try.underlying3 (by simp) (by decide) zero_int (.slice ao xs.length cap)
  have hta2 := run_ta_no 20 28 9 Try.underlying9 (by simp) (by decide) zero_str (.slice ao xs.length cap)
  have hlen := encNum_len xs.length
  go_enter Try.func61, Try.ntmps61
  go_wp2_with (first | (go_at_call 61; refine (form_num xs.length v bs _ (by omega) (by omega) hown hb).mono ?_; rintro e w1 ⟨v1, rfl, ho1, hg1⟩) | (at_builtin; refine wpList_appB rfl (.tmp 80) (.tmp 81) _ rfl _ (bs ++ encNum xs.length) rfl ho1 _ xs rfl (RdB.src (hx.kept hg1.1 fun k hk e => hd k hk e)) ?_ ?_; rotate_left; intro v2 w2 ho2 hg2))
  · go_ret2
    exact ⟨v2, rfl, by rw [← List.append_assoc]; exact ho2, Grew.trans hg1 hg2⟩
  · simp only [List.length_append]; omega

def boolB (b : Bool) : UInt8 := if b then 1 else 0
set_option maxRecDepth 100000 in
set_option maxHeartbeats 400000 in
theorem form_bool (x : Bool) (v : Value) (bs : List UInt8) (w : World) (hown : OwnB w v bs) (hb : bs.length ≤ 1099511627776) :
    Calls Try.prog 61 #[v, .iface 4 (.bool x)] w (FormPost w v bs [boolB x] true) := by
  have hta := run_ta_yes 20 4 Try.underlying4 (by simp) (.bool x)
  have hta1 := run_ta_no 20 4 3 Try.underlying3 (by simp) (by decide) zero_int (.bool x)
  have hta2 := run_ta_no 20 4 9 Try.underlying9 (by simp) (by decide) zero_str (.bool x)
  have hta3 := run_ta_no 20 4 28 Try.underlying28 (by simp) (by decide) zero_bytes (.bool x)
  have hta4 := run_ta_no 20 4 40 Try.underlying40 (by simp) (by decide) zero_id (.bool x)
  have hta5 := run_ta_no 20 4 42 Try.underlying42 (by simp) (by decide) zero_dot (.bool x)
  have hta6 := run_ta_no 20 4 43 Try.underlying43 (by simp) (by decide) zero_ints (.bool x)
  cases x
  all_goals
    go_enter Try.func61, Try.ntmps61
    go_wp2_with (first | (at_builtin; refine wpList_appB rfl (.tmp 153) (.tmp 154) _ rfl v bs rfl (hown.alloc _) _ [boolB false] rfl (srcB_new w 0) ?_ ?_; rotate_left; intro v1 w1 ho1 hg1) | (at_builtin; refine wpList_appB rfl (.tmp 150) (.tmp 151) _ rfl v bs rfl (hown.alloc _) _ [boolB true] rfl (srcB_new w 1) ?_ ?_; rotate_left; intro v1 w1 ho1 hg1))
    · go_ret2
      exact ⟨v1, rfl, ho1, Grew.trans ((Grew.refl w v).alloc _) hg1⟩
    · simp; omega

/-- The cells of a digest. -/
def idV (d : List UInt8) : Value := .agg (bytesV d).toArray
set_option maxRecDepth 100000 in
set_option maxHeartbeats 400000 in
theorem form_id (d : List UInt8) (hd : d.length = 32) (v : Value) (bs : List UInt8) (w : World) (hown : OwnB w v bs) (hb : bs.length ≤ 1099511627776) :
    Calls Try.prog 61 #[v, .iface 40 (idV d)] w (FormPost w v bs d true) := by
  have hta := run_ta_yes 20 40 Try.underlying40 (by simp) (idV d)
  have hta1 := run_ta_no 20 40 3 Try.underlying3 (by simp) (by decide) zero_int (idV d)
  have hta2 := run_ta_no 20 40 9 Try.underlying9 (by simp) (by decide) zero_str (idV d)
  have hta3 := run_ta_no 20 40 28 Try.underlying28 (by simp) (by decide) zero_bytes (idV d)
  go_enter Try.func61, Try.ntmps61
  have hsz : (bytesV d).toArray.size = 32 := by rw [List.size_toArray, bytesV_length, hd]
  go_wp2_with (first | (at_builtin; refine wpList_appB rfl (.tmp 86) (.tmp 87) _ rfl v bs rfl (hown.alloc _) _ d rfl (srcB_all w d 32 _ hd (by decide)) ?_ ?_; rotate_left; intro v1 w1 ho1 hg1) | (refine wpList_store_new _ rfl 40 (.tmp 11) (.tmp 85) rfl _ (bytesV d).toArray _ rfl rfl rfl ?_ ?_ ?_ ?_; rotate_left 3))
  · go_ret2
    exact ⟨v1, rfl, ho1, Grew.trans ((Grew.refl w v).alloc _) hg1⟩
  · rw [hd]; omega
  · rw [hsz]; kernel_rfl
  · rw [hsz]; rfl
  · exact all_oneCell_toArray (bytesV_one d)
end Go.Proofs.Ytpagolhlbceegaa
