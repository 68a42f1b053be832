/-
  AsmLabels answers true, whatever the place and the way.
-/
import Derived.Test.YtffpkcmcoppbmaaGreatDoorALab0
import Derived.Test.YtffpkcmcoppbmaaGreatDoorALab1
import Derived.Test.YtffpkcmcoppbmaaGreatDoorALab2
namespace Go.KM.Tryz
open Go Go.RowKit Go.Proofs
section
variable {g : Nat → Option AV} {D : BinOp → SE → SE → Option Bool} {cf : CF} {e e1 : Env} {h h1 : AH}
theorem opers_cons {o : KOper} {l : List KOper} (ho : exOper g D cf o e h = .ok e1 h1) : exOpers g D cf (o :: l) e h = exOpers g D cf l e1 h1 := by
  show (match exOper g D cf o e h with
    | .ok e h => exOpers g D cf l e h
    | r => r) = _
  rw [ho]
theorem oper_ok {d : Option Nat} {op : KOp} {v : AV} (ho : exOp g D cf op e h = .ok v h1) : exOper g D cf ⟨d, none, op⟩ e h = .ok (putD d v e) h1 := by
  show (match exOp g D cf op e h with
    | .ok v h => RE.ok (putD d v e) h
    | .pan v h => RE.pan v e h
    | .bad => RE.bad) = _
  rw [ho]
theorem oper_mov {d : Option Nat} {x : KX} {v : AV} (hx : evX g e x = some v) : exOper g D cf ⟨d, none, .mov x⟩ e h = .ok (putD d v e) h := by
  refine oper_ok ?_
  show w1 (evX g e x) _ = _
  rw [hx]; rfl
theorem conv_int (k j : IntKind) (n : Int) : xconv k (.int j n) h = .ok (.int k (k.wrap n)) h := by
  show mkInt k (wrapF k n) h = _
  rw [mkInt_eq, wrapF_eq]
theorem oper_conv {d : Option Nat} {x : KX} {k j : IntKind} {n : Int} (hx : evX g e x = some (.int j n)) : exOper g D cf ⟨d, none, .conv k x⟩ e h = .ok (putD d (.int k (k.wrap n)) e) h := by
  refine oper_ok ?_
  show w1 (evX g e x) _ = _
  rw [hx]; exact conv_int k j n
theorem oper_rem {d : Option Nat} {x y : KX} {k : IntKind} {n m : Int} (hx : evX g e x = some (.int k n)) (hy : evX g e y = some (.int k m)) (hm : m ≠ 0) : exOper g D cf ⟨d, none, .bin .rem x y⟩ e h = .ok (putD d (.int k (n.tmod m)) e) h := by
  refine oper_ok ?_
  show w1 (evX g e x) (fun a => w1 (evX g e y) fun b => xbin D .rem a b h) = _
  rw [hx, hy]; exact bin_rem (D := D) k n m hm
end
def r5_0 : List KOper := [⟨(some 4), none, .mov (.c (.bool false))⟩]
def r5_1 : List KOper := [⟨(some 18), none, .mov (.t 0)⟩, ⟨(some 19), none, .conv .u64 (.t 18)⟩, ⟨(some 20), none, .bin .rem (.t 19) (.c (.int .u64 6))⟩, ⟨(some 21), none, .conv .i64 (.t 20)⟩, ⟨(some 0), none, .mov (.t 21)⟩]
theorem body5 : kf5.body = .seq (.rgn r5_0) (.seq (.rgn r5_1) rest5) := by kernel_rfl
/-- What the place comes to. -/
def place (a : Int) : Int := IntKind.i64.wrap ((IntKind.u64.wrap a).tmod 6)
theorem place_cases (a : Int) : place a = 0 ∨ place a = 1 ∨ place a = 2 ∨ place a = 3 ∨ place a = 4 ∨ place a = 5 := by
  have h0 : 0 ≤ IntKind.u64.wrap a := by
    simp [IntKind.wrap, IntKind.bits, IntKind.signed]; omega
  have h1 : (IntKind.u64.wrap a).tmod 6 = IntKind.u64.wrap a % 6 := Int.tmod_eq_emod_of_nonneg h0
  unfold place
  rw [h1]
  have h2 : IntKind.i64.wrap (IntKind.u64.wrap a % 6) = IntKind.u64.wrap a % 6 := by
    generalize IntKind.u64.wrap a = q at h0
    simp [IntKind.wrap, IntKind.bits, IntKind.signed]; omega
  rw [h2]; omega
noncomputable def envA (a : Int) (b : Bool) : Env := envOf [.int .i64 a, .bool b]
noncomputable def envB (a : Int) (b : Bool) : Env := ((((((envA a b).set 4 (.bool false)).set 18 (.int .i64 a)).set 19 (.int .u64 (IntKind.u64.wrap a))).set 20 (.int .u64 ((IntKind.u64.wrap a).tmod 6))).set 21 (.int .i64 (place a))).set 0 (.int .i64 (place a))
theorem seq_step {K : KP KF} (n : Nat) {l : List KOper} {b : KC} {e e1 : Env} {h h1 : AH} (hx : exOpers K.g K.D (callF K (runC K n)) l e h = .ok e1 h1) : runC K (n + 2) (.seq (.rgn l) b) e h = runC K (n + 1) b e1 h1 := by
  show thenO (reOut (exOpers K.g K.D (callF K (runC K n)) l e h)) (fun e h => runC K (n + 1) b e h) = _
  rw [hx]; rfl
theorem start_run (a : Int) (b : Bool) (n : Nat) : runC K2 (n + 3) kf5.body (envA a b) ah0 = runC K2 (n + 1) rest5 (envB a b) ah0 := by
  rw [body5]
  refine (seq_step (n + 1) (e1 := (envA a b).set 4 (.bool false)) (h1 := ah0) rfl).trans ?_
  refine seq_step n ?_
  refine (opers_cons (oper_mov (v := .int .i64 a) rfl)).trans ?_
  refine (opers_cons (oper_conv (j := .i64) (n := a) rfl)).trans ?_
  refine (opers_cons (oper_rem (k := .u64) (n := IntKind.u64.wrap a) (m := 6) rfl rfl (by decide))).trans ?_
  refine (opers_cons (oper_conv (j := .u64) (n := (IntKind.u64.wrap a).tmod 6) rfl)).trans ?_
  exact opers_cons (oper_mov (v := .int .i64 (place a)) rfl)
theorem envB_le (a : Int) (b : Bool) : LeE (env5 (place a) b) (envB a b) := by
  intro t v hv
  unfold env5 at hv
  unfold envB envA
  simp only [PT.get_set] at hv ⊢
  by_cases h4 : t = 4
  · subst h4; simpa using hv
  · by_cases h1 : t = 1
    · subst h1
      have hv : AV.bool b = v := by simpa using hv
      subst hv; rfl
    · by_cases h0 : t = 0
      · subst h0; simpa using hv
      · simp [h4, h1, h0, PT.get_leaf] at hv
theorem lab_run (a : Int) (b : Bool) : LabRun (place a) b := by
  rcases place_cases a with h | h | h | h | h | h <;> rw [h] <;> cases b
  · exact lab_0_false
  · exact lab_0_true
  · exact lab_1_false
  · exact lab_1_true
  · exact lab_2_false
  · exact lab_2_true
  · exact lab_3_false
  · exact lab_3_true
  · exact lab_4_false
  · exact lab_4_true
  · exact lab_5_false
  · exact lab_5_true
theorem run5 (a : Int) (b : Bool) : isTrue (callC K2 100003 5 [.int .i64 a, .bool b] ah0) = true := by
  have hl := lab_run a b
  unfold LabRun saysTrue at hl
  have hF : K2.F 5 = some kf5 := by kernel_rfl
  show isTrue (callF K2 (runC K2 100003) 5 [.int .i64 a, .bool b] ah0) = true
  rw [callF_eq, hF]
  dsimp only
  have hs : runC K2 100003 kf5.body (envOf [.int .i64 a, .bool b]) ah0 = runC K2 100001 rest5 (envB a b) ah0 := start_run a b 100000
  rw [hs]
  have hle := runC_le K2 ER.leE LeE.refl 100000 rest5 _ _ ah0 (envB_le a b)
  have hres : kf5.res = [.tmp 4] := rfl
  rw [hres]
  revert hle hl
  generalize runC K2 100000 rest5 (env5 (place a) b) ah0 = o
  generalize runC K2 (100000 + 1) rest5 (envB a b) ah0 = o'
  intro hl hle
  cases hle with
  | bad => cases hl
  | norm e e' h he =>
    have := resV_le he (h := h) [.tmp 4] (fun h0 => by dsimp only at hl; rw [h0] at hl; cases hl)
    show isTrue (resV e' h [.tmp 4]) = true
    rw [this]; exact hl
  | ret e e' h he =>
    have := resV_le he (h := h) [.tmp 4] (fun h0 => by dsimp only at hl; rw [h0] at hl; cases hl)
    show isTrue (resV e' h [.tmp 4]) = true
    rw [this]; exact hl
  | exit i e e' h he => cases hl
  | pan v e e' h he => cases hl
theorem labels_true {W : World} (L : Laid W) (a : Int) (b : Bool) : Calls Tryz.prog 5 #[.int .i64 a, .bool b] W fun e w' => e = .returned (.bool true) ∧ Below W.heap.size W w' := by
  obtain ⟨h', he⟩ := isTrue_ok (run5 a b)
  exact true_sound (kok2 (ρ := fun _ => 0) L) (vs' := [.int .i64 a, .bool b]) he (.cons _ _ _ _ (.int _ _) (.cons _ _ _ _ (.bool _) .nil))
end Go.KM.Tryz
