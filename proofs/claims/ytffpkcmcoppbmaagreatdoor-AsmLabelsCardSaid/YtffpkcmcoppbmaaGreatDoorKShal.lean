/-
  Words for functions that are read off the small machine's code, and what they come to on values that are told.
-/
import Derived.Test.YtffpkcmcoppbmaaGreatDoorKCps
namespace Go.KM

noncomputable def D0 : BinOp → SE → SE → Option Bool := fun _ _ _ => none
noncomputable def xpick (c a b : AV) (h : AH) : R AV := match c with
  | .bool true => .ok a h
  | .bool false => .ok b h
  | _ => .bad
noncomputable def xbuild (z : List AV) (ps : List (Nat × Nat × AV)) (h : AH) : R AV := match fill z ps with
  | some cs => .ok (.agg cs) h
  | none => .bad
noncomputable def xbslice (esz : Nat) (z : List AV) (len : Nat) (ps : List (Nat × Nat × AV)) (h : AH) : R AV := match fill z ps with
  | some cs => .ok (.sl h.next 0 len esz (some len)) (newBlk (.cells cs) h)
  | none => .bad
noncomputable def xmkmap (h : AH) : R AV := .ok (.map h.next) (newBlk (.mp []) h)
noncomputable def xcallv (cf : CF) (x : AV) (args : List AV) (h : AH) : R AV := match x with
  | .func f first captured => cf f (app first (app args captured)) h
  | _ => .bad
noncomputable def xpan (x : AV) (h : AH) : R AV := match x with
  | .iface t v => .pan (.iface t v) h
  | _ => .bad
noncomputable def c1 (r : R AV) : Option AV := match r with
  | .ok v _ => some v
  | _ => none
noncomputable def resL (l : List (Option AV)) (h : AH) : R AV :=
  match (List.rec (motive := fun _ => Option (List AV)) (some []) (fun o _ ih =>
    match o with
    | some v => Option.rec (motive := fun _ => Option (List AV)) none (fun vs => some (v :: vs)) ih
    | none => none) l : Option (List AV)) with
  | some [v] => .ok v h
  | some vs => .ok (.tup vs) h
  | none => .bad
noncomputable def aB (x y : Bool) : Bool := Bool.rec (motive := fun _ => Bool) false y x
noncomputable def rdOk (r : R AV) (v : AV) : Bool := match r with
  | .ok u _ => beqA u v
  | _ => false
noncomputable def mdOk (b : Nat) (cs : List AV) (h : AH) : Bool := match cellsAt b h with
  | some ds => beqL ds cs
  | none => false

/-! what the words come to -/
section
variable {h h' : AH} {k : AV → AH → R AV} {v w : AV} {x y : R AV} {D : BinOp → SE → SE → Option Bool}
@[simp] theorem bd_ok : bd (.ok v h) k = k v h := rfl
@[simp] theorem bd_pan : bd (.pan v h) k = .pan v h := rfl
@[simp] theorem bd_bad : bd .bad k = .bad := rfl
@[simp] theorem bdn_ok : bdn (.ok v h) k = k v h := rfl
@[simp] theorem cB_bool (c : Bool) : cB (.bool c) x y = if c = true then x else y := by cases c <;> rfl
@[simp] theorem gdo_wv (b c : Bool) : gdo (wv b (.bool c)) x y = if c = b then x else y := by cases b <;> cases c <;> rfl
@[simp] theorem gdo_tup (b : Bool) (l : List AV) : gdo (wv b (.tup l)) x y = y := rfl
@[simp] theorem ck_true : ck true x = x := rfl
@[simp] theorem aB_true (b : Bool) : aB true b = b := rfl
@[simp] theorem un_cons (a : AV) (l : List AV) (f : AV → List AV → R AV) : un (a :: l) f = f a l := rfl
@[simp] theorem nl_nil : nl [] x = x := rfl
@[simp] theorem oc_some (l : List AV) (f : List AV → R AV) : oc (some l) f = f l := rfl
theorem beqK_self (k : IntKind) : beqK k k = true := by cases k <;> rfl
theorem beqS_self : ∀ e : SE, beqS e e = true
  | .var i => by simp [beqS]
  | .lit n => by simp [beqS]
  | .op o k a b => by simp [beqS, beqS_self a, beqS_self b, beqK_self]
mutual
theorem beqA_self : ∀ v : AV, beqA v v = true
  | .bool _ => by simp [beqA]
  | .int _ _ => by simp [beqA, beqK_self]
  | .sym _ _ => by simp [beqA, beqK_self, beqS_self]
  | .str _ => by simp [beqA]
  | .nilp => rfl
  | .ptr _ _ => by simp [beqA]
  | .rptr l => by simp [beqA, beqL_self l]
  | .nils => rfl
  | .sl _ _ _ _ _ => by simp [beqA]
  | .rsl l _ => by simp [beqA, beqL_self l]
  | .nilm => rfl
  | .map _ => by simp [beqA]
  | .func _ a b => by simp [beqA, beqL_self a, beqL_self b]
  | .nilf => rfl
  | .iface _ v => by simp [beqA, beqA_self v]
  | .nili => rfl
  | .agg l => by simp [beqA, beqL_self l]
  | .tup l => by simp [beqA, beqL_self l]
theorem beqL_self : ∀ l : List AV, beqL l l = true
  | [] => rfl
  | a :: l => by simp [beqL, beqA_self a, beqL_self l]
end
@[simp] theorem rdOk_ok : rdOk (.ok v h) v = true := beqA_self v
@[simp] theorem rdOk_ok' : rdOk (.ok v h) w = beqA v w := rfl
theorem mdOk_eq {b : Nat} {cs : List AV} (hc : cellsAt b h = some cs) : mdOk b cs h = true := by unfold mdOk; rw [hc]; exact beqL_self cs
@[simp] theorem mkInt_ok (k : IntKind) (n : Int) : mkInt k n h = .ok (.int k n) h := by
  unfold mkInt forceI
  cases n with
  | ofNat m => unfold forceN; cases m <;> rfl
  | negSucc m => unfold forceN; cases m <;> rfl
@[simp] theorem mkBool_ok (b : Bool) : mkBool b h = .ok (.bool b) h := by cases b <;> rfl

/-! memory -/
@[simp] theorem next_newBlk (b : Blk) : (newBlk b h).next = h.next + 1 := rfl
@[simp] theorem next_putBlk (b : Nat) (x : Blk) : (putBlk b x h).next = h.next := rfl
@[simp] theorem next_delBlk (b : Nat) : (delBlk b h).next = h.next := rfl
def asCells : Option Blk → Option (List AV)
  | some (.cells cs) => some cs
  | _ => none
def asMp : Option Blk → Option (List (AV × AV))
  | some (.mp es) => some es
  | _ => none
theorem cellsAt_eq (b : Nat) : cellsAt b h = asCells (h.m.get b) := by unfold cellsAt asCells; rfl
theorem mpAt_eq (b : Nat) : mpAt b h = asMp (h.m.get b) := by unfold mpAt asMp; rfl
theorem get_newBlk (b : Nat) (x : Blk) : (newBlk x h).m.get b = if b = h.next then some x else h.m.get b := PT.get_set _ _ _ _
theorem get_putBlk (b c : Nat) (x : Blk) : (putBlk c x h).m.get b = if b = c then some x else h.m.get b := PT.get_set _ _ _ _
theorem get_delBlk (b c : Nat) : (delBlk c h).m.get b = if b = c then none else h.m.get b := PT.get_del _ _ _
theorem cellsAt_newBlk (b : Nat) (x : Blk) : cellsAt b (newBlk x h) = if b = h.next then asCells (some x) else cellsAt b h := by
  rw [cellsAt_eq, get_newBlk]; split <;> simp [cellsAt_eq]
theorem cellsAt_putBlk (b c : Nat) (x : Blk) : cellsAt b (putBlk c x h) = if b = c then asCells (some x) else cellsAt b h := by
  rw [cellsAt_eq, get_putBlk]; split <;> simp [cellsAt_eq]
theorem cellsAt_delBlk (b c : Nat) : cellsAt b (delBlk c h) = if b = c then none else cellsAt b h := by
  rw [cellsAt_eq, get_delBlk]; split <;> simp [cellsAt_eq, asCells]
theorem mpAt_newBlk (b : Nat) (x : Blk) : mpAt b (newBlk x h) = if b = h.next then asMp (some x) else mpAt b h := by
  rw [mpAt_eq, get_newBlk]; split <;> simp [mpAt_eq]
theorem mpAt_putBlk (b c : Nat) (x : Blk) : mpAt b (putBlk c x h) = if b = c then asMp (some x) else mpAt b h := by
  rw [mpAt_eq, get_putBlk]; split <;> simp [mpAt_eq]
theorem mpAt_delBlk (b c : Nat) : mpAt b (delBlk c h) = if b = c then none else mpAt b h := by
  rw [mpAt_eq, get_delBlk]; split <;> simp [mpAt_eq, asMp]

/-! numbers, texts -/
theorem natOf_nat (k : IntKind) (n : Nat) : natOf (.int k (n : Int)) = some n := rfl
theorem natOf_lit (k : IntKind) (n : Nat) : natOf (.int k (OfNat.ofNat n)) = some n := rfl
theorem natOf_nonneg (k : IntKind) {n : Int} (hn : 0 ≤ n) : natOf (.int k n) = some n.toNat := by
  obtain ⟨m, rfl⟩ := Int.eq_ofNat_of_zero_le hn; rfl
theorem bin_add (k : IntKind) (a b : Int) : xbin D .add (.int k a) (.int k b) h = .ok (.int k (k.wrap (a + b))) h := by
  show Bool.rec (motive := fun _ => R AV) .bad (mkInt k (wrapF k (Int.add a b)) h) (beqK k k) = _
  rw [beqK_self, wrapF_eq]; exact mkInt_ok _ _
theorem bin_sub (k : IntKind) (a b : Int) : xbin D .sub (.int k a) (.int k b) h = .ok (.int k (k.wrap (a - b))) h := by
  show Bool.rec (motive := fun _ => R AV) .bad (mkInt k (wrapF k (Int.sub a b)) h) (beqK k k) = _
  rw [beqK_self, wrapF_eq]; exact mkInt_ok _ _
theorem bin_mul (k : IntKind) (a b : Int) : xbin D .mul (.int k a) (.int k b) h = .ok (.int k (k.wrap (a * b))) h := by
  show Bool.rec (motive := fun _ => R AV) .bad (mkInt k (wrapF k (Int.mul a b)) h) (beqK k k) = _
  rw [beqK_self, wrapF_eq]; exact mkInt_ok _ _
theorem bin_quo (k : IntKind) (a b : Int) (hb : b ≠ 0) : xbin D .quo (.int k a) (.int k b) h = .ok (.int k (k.wrap (a.tdiv b))) h := by
  show Bool.rec (motive := fun _ => R AV) .bad (Bool.rec (motive := fun _ => R AV) (mkInt k (wrapF k (Int.tdiv a b)) h) .bad (eqI b 0)) (beqK k k) = _
  rw [beqK_self, wrapF_eq, eqI_eq, beq_false_of_ne hb]; exact mkInt_ok _ _
theorem bin_rem (k : IntKind) (a b : Int) (hb : b ≠ 0) : xbin D .rem (.int k a) (.int k b) h = .ok (.int k (a.tmod b)) h := by
  show Bool.rec (motive := fun _ => R AV) .bad (Bool.rec (motive := fun _ => R AV) (mkInt k (Int.tmod a b) h) .bad (eqI b 0)) (beqK k k) = _
  rw [beqK_self, eqI_eq, beq_false_of_ne hb]; exact mkInt_ok _ _
theorem bin_eql (k : IntKind) (a b : Int) : xbin D .eql (.int k a) (.int k b) h = .ok (.bool (decide (a = b))) h := by
  show Bool.rec (motive := fun _ => R AV) .bad (mkBool (eqI a b) h) (beqK k k) = _
  rw [beqK_self, eqI_eq]; exact mkBool_ok _
theorem bin_neq (k : IntKind) (a b : Int) : xbin D .neq (.int k a) (.int k b) h = .ok (.bool (!decide (a = b))) h := by
  show Bool.rec (motive := fun _ => R AV) .bad (mkBool (Bool.not (eqI a b)) h) (beqK k k) = _
  rw [beqK_self, eqI_eq]; exact mkBool_ok _
theorem bin_lss (k : IntKind) (a b : Int) : xbin D .lss (.int k a) (.int k b) h = .ok (.bool (decide (a < b))) h := by
  show Bool.rec (motive := fun _ => R AV) .bad (mkBool (ltI a b) h) (beqK k k) = _
  rw [beqK_self, ltI_eq]; exact mkBool_ok _
theorem bin_gtr (k : IntKind) (a b : Int) : xbin D .gtr (.int k a) (.int k b) h = .ok (.bool (decide (b < a))) h := by
  show Bool.rec (motive := fun _ => R AV) .bad (mkBool (ltI b a) h) (beqK k k) = _
  rw [beqK_self, ltI_eq]; exact mkBool_ok _
theorem bin_leq (k : IntKind) (a b : Int) : xbin D .leq (.int k a) (.int k b) h = .ok (.bool (decide (a ≤ b))) h := by
  show Bool.rec (motive := fun _ => R AV) .bad (mkBool (Bool.not (ltI b a)) h) (beqK k k) = _
  rw [beqK_self, ltI_eq, mkBool_ok]
  congr 2; by_cases hh : a ≤ b
  · rw [decide_eq_true hh, decide_eq_false (by omega)]; rfl
  · rw [decide_eq_false hh, decide_eq_true (by omega)]; rfl
theorem bin_geq (k : IntKind) (a b : Int) : xbin D .geq (.int k a) (.int k b) h = .ok (.bool (decide (b ≤ a))) h := by
  show Bool.rec (motive := fun _ => R AV) .bad (mkBool (Bool.not (ltI a b)) h) (beqK k k) = _
  rw [beqK_self, ltI_eq, mkBool_ok]
  congr 2; by_cases hh : b ≤ a
  · rw [decide_eq_true hh, decide_eq_false (by omega)]; rfl
  · rw [decide_eq_false hh, decide_eq_true (by omega)]; rfl
theorem bin_str_add (a b : List Nat) (hl : a.length + b.length ≤ 9223372036854775807) : xbin D .add (.str a) (.str b) h = .ok (.str (a ++ b)) h := by
  show Bool.rec (motive := fun _ => R AV) .bad (.ok (.str (app a b)) h) (Nat.ble (Nat.add (lenN a) (lenN b)) 9223372036854775807) = _
  rw [lenN_eq, lenN_eq, show Nat.ble (Nat.add a.length b.length) 9223372036854775807 = true from ble_iff.2 hl, app_eq]
theorem beq_dec (a b : List Nat) : (a == b) = decide (a = b) := by
  by_cases hh : a = b
  · subst hh; simp
  · rw [decide_eq_false hh]; exact beq_false_of_ne hh
theorem bin_str_eql (a b : List Nat) : xbin D .eql (.str a) (.str b) h = .ok (.bool (decide (a = b))) h := by
  show mkBool (eqNs a b) h = _
  rw [eqNs_eq, mkBool_ok, beq_dec]
theorem bin_str_neq (a b : List Nat) : xbin D .neq (.str a) (.str b) h = .ok (.bool (!decide (a = b))) h := by
  show mkBool (Bool.not (eqNs a b)) h = _
  rw [eqNs_eq, mkBool_ok, beq_dec]
theorem len_str (s : List Nat) : xlen 7 (.str s) h = .ok (.int .i64 s.length) h := by
  show Bool.rec (motive := fun _ => R AV) .bad (mkInt .i64 (Int.ofNat (lenN s)) h) (Nat.beq 7 7) = _
  rw [lenN_eq]; exact mkInt_ok _ _
theorem len_nils : xlen 2 .nils h = .ok (.int .i64 0) h := rfl
theorem len_sl (b o n e : Nat) (c : Option Nat) : xlen 2 (.sl b o n e c) h = .ok (.int .i64 n) h := mkInt_ok _ _
theorem idxs_str (s : List Nat) (i : Nat) (hi : i < s.length) (k : IntKind) : xidxs (.str s) (.int k i) h = .ok (.int .u8 (s[i] : Nat)) h := by
  show (match nth s i with
    | some c => mkInt .u8 (Int.ofNat c) h
    | none => .bad) = _
  rw [nth_eq, List.getElem?_eq_getElem hi]; exact mkInt_ok _ _
theorem ptr_load {b o : Nat} {cs : List AV} {v : AV} (hc : cellsAt b h = some cs) (hv : cs[o]? = some v) : xload1 (.ptr b o) h = .ok v h := by
  show (match cellsAt b h with
    | some cs => match nth cs o with
      | some v => R.ok v h
      | none => R.bad
    | none => R.bad) = _
  rw [hc]; dsimp only; rw [nth_eq, hv]
theorem cut_ok (cs : List AV) (o n : Nat) (hl : o + n ≤ cs.length) : cut cs o n = some ((cs.drop o).take n) := by
  unfold cut
  dsimp only
  rw [takeN_eq, dropN_eq, lenN_eq, show ((cs.drop o).take n).length = n by simp; omega, beq_iff.2 rfl]
theorem ptr_loadn {b o n : Nat} {cs : List AV} (hc : cellsAt b h = some cs) (hl : o + n ≤ cs.length) : xloadn n (.ptr b o) h = .ok (.agg ((cs.drop o).take n)) h := by
  show (match cellsAt b h with
    | some cs => match cut cs o n with
      | some s => R.ok (AV.agg s) h
      | none => R.bad
    | none => R.bad) = _
  rw [hc]; dsimp only; rw [cut_ok cs o n hl]
end
end Go.KM
