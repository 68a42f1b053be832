/-
  asm.Parse: what its reading comes to; a fault that is thrown on the way is caught. (The pieces' code in the small machine's words is written by program.)
-/
import Derived.Test.YtffpkcmcoppbmaaGreatDoorACaught
import Derived.Test.YtffpkcmcoppbmaaGreatDoorKTrue
import Derived.Test.YtffpkcmcoppbmaaGreatDoorChecked
import Derived.Recover
import Derived.WalkKit
namespace Go.KM.Tryz
open Go Go.RowKit Go.Proofs

def k11_0 : KC := (.rgn [⟨(some 2), none, .alloc [.nils, .nils]⟩, ⟨(some 3), none, .alloc [(.int .i64 0)]⟩, ⟨(some 4), none, .alloc [(.int .i64 0)]⟩])
def k11_1 : KC := (.seq (.rgn [⟨(some 6), none, .mov (.t 0)⟩, ⟨(some 7), none, .len 7 (.t 6)⟩, ⟨(some 8), none, .bin .gtr (.t 7) (.c (.int .i64 65536))⟩]) (.cond (.t 8) (.seq (.rgn [⟨(some 9), none, .build [.nils, .nils] []⟩, ⟨none, none, .store 2 (.t 2) (.t 9)⟩, ⟨none, none, .store 1 (.t 3) (.c (.int .i64 0))⟩, ⟨none, none, .store 1 (.t 4) (.c (.int .i64 3))⟩]) .ret) .skip))
def k11_3 : KC := (.rgn [⟨(some 10), none, .build [.nils, .nils, (.int .i64 0), (.bool false), (.bool false), .nilm, .nils, .nils] []⟩, ⟨(some 11), none, .box (.t 10)⟩, ⟨(some 5), none, .mov (.t 11)⟩])
def k11_5 : KC := (.seq (.rgn [⟨(some 13), none, .mov (.t 5)⟩, ⟨(some 14), none, .mov (.t 0)⟩, ⟨(some 15), none, .call 23 [(.t 13), (.t 14)]⟩]) (.seq (.rgn [⟨(some 16), none, .mov (.t 5)⟩, ⟨(some 17), none, .nilchk (.t 16)⟩, ⟨(some 18), none, .fadr 0 (.t 17)⟩, ⟨(some 19), none, .loadn 2 (.t 18)⟩, ⟨none, none, .store 2 (.t 2) (.t 19)⟩, ⟨none, none, .store 1 (.t 3) (.c (.int .i64 0))⟩, ⟨none, none, .store 1 (.t 4) (.c (.int .i64 0))⟩]) .ret))
def k21_1 : KC := (.seq (.rgn [⟨(some 6), none, .mov (.t 3)⟩, ⟨(some 7), none, .eql true 1 (.t 6) (.c .nilp)⟩]) (.cond (.t 7) (.drw [⟨1, 0, 0, ⟨(some 8), none, .build [.nils, .nils] []⟩⟩, ⟨1, 0, 0, ⟨(some 9), none, .mov (.t 3)⟩⟩, ⟨1, 0, 0, ⟨(some 10), none, .nilchk (.t 9)⟩⟩, ⟨1, 0, 0, ⟨(some 11), none, .fadr 1 (.t 10)⟩⟩, ⟨1, 0, 0, ⟨(some 12), none, .load1 (.t 11)⟩⟩, ⟨1, 0, 0, ⟨(some 13), none, .mov (.t 3)⟩⟩, ⟨1, 0, 0, ⟨(some 14), none, .nilchk (.t 13)⟩⟩, ⟨1, 0, 0, ⟨(some 15), none, .fadr 0 (.t 14)⟩⟩, ⟨1, 0, 0, ⟨(some 16), none, .load1 (.t 15)⟩⟩, ⟨3, 0, 1, ⟨none, none, .store 2 (.t 0) (.t 8)⟩⟩, ⟨3, 1, 2, ⟨none, none, .store 1 (.t 1) (.t 12)⟩⟩, ⟨3, 2, 3, ⟨none, none, .store 1 (.t 2) (.t 16)⟩⟩]) .skip))
def res11 : List KRes := [.celln 2 2, .cell1 3, .cell1 4]

/-! the pieces of the program's code -/
def cl : Code → Code
  | .seq a _ => a
  | c => c
def cr : Code → Code
  | .seq _ b => b
  | c => c
noncomputable def b11 : Code := (Tryz.f11.body).getD .skip
noncomputable def b21 : Code := (Tryz.f21.body).getD .skip
noncomputable def pc0 : Code := cl b11
noncomputable def pc1 : Code := cl (cr b11)
noncomputable def pc3 : Code := cl (cr (cr b11))
def pc4 : Code := .region 4 #[{ dst := some 12, op := .makeFunc (.func 21) #[] #[.tmp 2, .tmp 3, .tmp 4], type := 1, pos := "asm.go:324", after := #[], guard := none },
  { dst := none, op := .defer { callee := .value (.tmp 12), args := #[], argTypes := #[] }, type := 0, pos := "asm.go:324", after := #[{ on := 0, ground := .data }], guard := none }] false
noncomputable def pc5 : Code := cr (cr (cr (cr b11)))
def pd0 : Code := .region 0 #[{ dst := some 4, op := .call { callee := .builtin .recover, args := #[], argTypes := #[] }, type := 20, pos := "asm.go:325", after := #[], guard := none },
  { dst := some 5, op := .call { callee := .value (.func 22), args := #[.tmp 4], argTypes := #[20] }, type := 62, pos := "asm.go:325", after := #[{ on := 0, ground := .data }, { on := 0, ground := .chain }], guard := none },
  { dst := some 3, op := .assign (.tmp 5), type := 62, pos := "asm.go:325", after := #[{ on := 1, ground := .data }, { on := 1, ground := .chain }, { on := 0, ground := .phase }, { on := 1, ground := .phase }], guard := none }] false
noncomputable def pd1 : Code := cr b21
theorem b11_eq : Tryz.f11.body = some (.seq pc0 (.seq pc1 (.seq pc3 (.seq pc4 pc5)))) := by kernel_rfl
theorem b21_eq : Tryz.f21.body = some (.seq pd0 pd1) := by kernel_rfl
theorem t11_0 : kcode Tryz.prog 20 pc0 = some k11_0 := by kernel_rfl
theorem t11_1 : kcode Tryz.prog 20 pc1 = some k11_1 := by kernel_rfl
theorem t11_3 : kcode Tryz.prog 20 pc3 = some k11_3 := by kernel_rfl
theorem t11_5 : kcode Tryz.prog 20 pc5 = some k11_5 := by kernel_rfl
theorem t21_1 : kcode Tryz.prog 17 pd1 = some k21_1 := by kernel_rfl
theorem r11 : kres Tryz.prog Tryz.f11.results.toList = some res11 := by kernel_rfl

/-! what the small machine says of it -/
noncomputable def parseEnd (K : KP KF) (m : Nat) (e : Env) (h : AH) : R AV :=
  match runC K m k11_5 (e.del 12) h with
  | .ret e2 h2 => resV e2 h2 res11
  | .pan (.iface t (.ptr b o)) e2 h2 => match e.get 2, e.get 3, e.get 4 with
    | some x, some y, some z => Bool.rec (motive := fun _ => R AV) .bad (match runC K m k21_1 (envOf [x, y, z, .ptr b o]) h2 with
      | .norm _ h3 => resV e2 h3 res11
      | _ => .bad) (Nat.beq t 62)
    | _, _, _ => .bad
  | _ => .bad
noncomputable def parseP (K : KP KF) (m : Nat) (vs : List AV) (h : AH) : R AV :=
  match vs with
  | [.str s] => match runC K m k11_0 (envOf [.str s]) h with
    | .norm e0 h0 => match runC K m k11_1 e0 h0 with
      | .ret e1 h1 => resV e1 h1 res11
      | .norm e1 h1 => match runC K m k11_3 e1 h1 with
        | .norm e3 h3 => parseEnd K m e3 h3
        | _ => .bad
      | _ => .bad
    | _ => .bad
  | _ => .bad

section
variable {W : World} {ρ : Nat → Int} {K : KP KF} {m : Nat}
abbrev LaidType (W : World) : Prop := W.cell? ⟨0, 0, none⟩ = some (.iface 194 (.agg #[.pointer (some ⟨10, 110, none⟩)]))
theorem rel_iface {W : World} {ρ : Nat → Int} {ι : Inj} {t : Nat} {v : AV} {x' : Value} (h : Rel W ρ ι (.iface t v) x') : ∃ v', x' = .iface t v' ∧ Rel W ρ ι v v' := by
  cases h with
  | iface t v v' h => exact ⟨v', rfl, h⟩
theorem laid_at (hg : LaidType W) {ι : Inj} {h : AH} {w : World} (I : Inv W ρ ι h w) : w.cell? ⟨0, 0, none⟩ = some (.iface 194 (.agg #[.pointer (some ⟨10, 110, none⟩)])) := I.roCell hg
theorem later' {ι : Inj} {h : AH} {w w' : World} (I : Inv W ρ ι h w) (hb : Below w.heap.size w w') : Inv W ρ ι h w' := I.later hb
set_option maxHeartbeats 1000000 in
theorem closure_pan (ok : KOk Tryz.prog W ρ K) (hg : LaidType W) {ι : Inj} {h h3 : AH} {w : World} {x y z : AV} {x' y' z' : Value} {b o : Nat} {q : Addr} {e3 : Env} {older : List PanicEntry}
    (I : Inv W ρ ι h w) (hx : Rel W ρ ι x x') (hy : Rel W ρ ι y y') (hz : Rel W ρ ι z z') (hp : Rel W ρ ι (.ptr b o) (.pointer (some q))) (hr : runC K m k21_1 (envOf [x, y, z, .ptr b o]) h = .norm e3 h3) :
    CallsD Tryz.prog 21 #[x', y', z'] (.panicking ({ v := .iface 62 (.pointer (some q)), recovered := false } :: older)) w fun e u' w' =>
      e = .returned (.tuple #[]) ∧ u' = .panicking ({ v := .iface 62 (.pointer (some q)), recovered := true } :: older) ∧ ∃ ι', Ext ι h ι' h3 ∧ Inv W ρ ι' h3 w' := by
  refine callsD_of_wpS Tryz.func21 b21_eq fun c₀ cs hu => ?_
  apply wpS_seq
  apply wpS_region
  simp [wpOpsS, go_sem, recoverD, hu, Tryz.ntmps21, Exit.thenS]
  refine (Go.Proofs.YtffpkcmcoppbmaaGreatDoor.errorsAs.caught_hit q w (laid_at hg I)).mono ?_
  rintro ev w' ⟨rfl, hb⟩
  dsimp only
  refine wpS_of_wp ?_
  have hst : St W ρ 17 ι (envOf [x, y, z, .ptr b o]) h { tmps := #[x', y', z'] ++ (((Array.replicate 14 undef).setIfInBounds 1 (Value.iface 62 (.pointer (some q)))).setIfInBounds 2 (.pointer (some q))).setIfInBounds 0 (.pointer (some q)), defers := [] } w' := by
    refine ⟨fun t v hv => ?_, by simp, later' I hb⟩
    rw [envOf_get] at hv
    match t, hv with
    | 0, hv => simp at hv; exact ⟨x', by simp, hv ▸ hx⟩
    | 1, hv => simp at hv; exact ⟨y', by simp, hv ▸ hy⟩
    | 2, hv => simp at hv; exact ⟨z', by simp, hv ▸ hz⟩
    | 3, hv => simp at hv; exact ⟨.pointer (some q), by simp, hv ▸ hp⟩
    | t + 4, hv => simp at hv
  refine (run_sound ok m).1 pd1 k21_1 17 ι _ h _ w' _ t21_1 hst (by rw [hr]; simp) ?_
  rw [hr]
  intro ι' a' w'' hgo
  exact ⟨hgo.defers, _, rfl, .tuple #[], by simp [results, Tryz.results21], rfl, rfl, ι', hgo.le, hgo.st.inv⟩
theorem idle_run (K : KP KF) (h : AH) : ∃ e, runC K 10 k21_1 (PT.leaf.set 3 .nilp) h = .norm e h := ⟨_, rfl⟩
set_option maxHeartbeats 1000000 in
theorem closure_idle (ok : KOk Tryz.prog W ρ K) {ι : Inj} {h : AH} {x' y' z' : Value} {w : World} (I : Inv W ρ ι h w) : CallsD Tryz.prog 21 #[x', y', z'] .returning w fun e u' w' => e = .returned (.tuple #[]) ∧ u' = .returning ∧ ∃ ι', Ext ι h ι' h ∧ Inv W ρ ι' h w' := by
  refine callsD_of_wpS Tryz.func21 b21_eq fun c₀ cs hu => ?_
  apply wpS_seq
  apply wpS_region
  simp [wpOpsS, go_sem, recoverD, hu, Tryz.ntmps21, Exit.thenS]
  refine (Go.Proofs.YtffpkcmcoppbmaaGreatDoor.errorsAs.caught_nil w).mono ?_
  rintro ev w' ⟨rfl, hb⟩
  dsimp only
  refine wpS_of_wp ?_
  obtain ⟨e3, hr⟩ := idle_run K h
  have hst : St W ρ 17 ι (PT.leaf.set 3 .nilp) h { tmps := #[x', y', z'] ++ (((Array.replicate 14 undef).setIfInBounds 1 Value.nilIface).setIfInBounds 2 (Value.pointer none)).setIfInBounds 0 (Value.pointer none), defers := [] } w' := by
    refine ⟨fun t v hv => ?_, by simp, later' I hb⟩
    rw [PT.get_set] at hv
    split at hv
    · rename_i ht; subst ht
      injection hv with hv; subst hv
      exact ⟨.pointer none, by simp, .nilp⟩
    · cases hv
  refine (run_sound ok 10).1 pd1 k21_1 17 ι _ h _ w' _ t21_1 hst (by rw [hr]; simp) ?_
  rw [hr]
  intro ι' a' w'' hgo
  refine ⟨hgo.defers, .returning, ?_, .tuple #[], by simp [results, Tryz.results21], rfl, rfl, ι', hgo.le, hgo.st.inv⟩
  cases c₀
  simp_all
/-- What the door's end reads. -/
theorem res_of {ι ι0 : Inj} {e : Env} {h0 h : AH} {a : Act} {w : World} (hr : EnvR W ρ ι e a.tmps) (hx : Ext ι0 h0 ι h) (I : Inv W ρ ι h w) (hv : resV e h res11 ≠ .bad) :
    ∃ v', (results Tryz.f11 a.tmps).run Tryz.prog w = .ok v' w ∧ CallPost W ρ ι0 h0 (resV e h res11) (.returned v') w := by
  cases hv2 : resV e h res11 with
  | bad => exact absurd hv2 hv
  | pan v h2 => unfold resV at hv2; split at hv2 <;> cases hv2
  | ok v h2 =>
    obtain ⟨rfl, v', m1, m2⟩ := results_sound (P := Tryz.prog) hr I r11 hv2
    exact ⟨v', m1, ι, hx, I, m2⟩
theorem pc4_wp {Q : Exit → Act → World → Prop} {a : Act} {w : World} {x y z : Value} (hs : 20 ≤ a.tmps.size) (hx : a.tmps[2]? = some x) (hy : a.tmps[3]? = some y) (hz : a.tmps[4]? = some z)
    (hq : Q .normal { tmps := a.tmps.setIfInBounds 12 (.func (.func 21) #[] #[x, y, z]), defers := { target := .fn (.func 21) #[x, y, z], args := #[] } :: a.defers } w) : pc4.wp Tryz.prog Q a w := by
  have hmf : ∀ (fn : Fn) (first cap : Array Value) (w : World), (Instr.makeFunc fn first cap).run Tryz.prog w = .ok (.func fn first cap) w := fun _ _ _ _ => rfl
  have h12 : 12 < a.tmps.size := by omega
  unfold pc4
  apply wp_region
  simp [wpOps, go_sem, hmf, hx, hy, hz, h12, Oper.upon]
  exact .inl (.inl hq)
theorem door_idle (ok : KOk Tryz.prog W ρ K) {ι ι0 : Inj} {h0 h : AH} {e : Env} {a : Act} {w : World} {x y z : Value} (hd : a.defers = [{ target := .fn (.func 21) #[x, y, z], args := #[] }]) (hr : EnvR W ρ ι e a.tmps) (hx : Ext ι0 h0 ι h) (I : Inv W ρ ι h w) (hv : resV e h res11 ≠ .bad) :
    Leaves Tryz.prog Tryz.f11 a.tmps (CallPost W ρ ι0 h0 (resV e h res11)) a.defers .returning w := by
  rw [hd]
  refine leaves_cons (f := 21) (args := #[x, y, z]) (by simp) (by simp [go_sem]) ?_
  refine (closure_idle ok I).mono ?_
  rintro e' u' w' ⟨rfl, rfl, ι', hle, I'⟩
  exact res_of (fun t v hv => by obtain ⟨v', k1, k2⟩ := hr t v hv; exact ⟨v', k1, k2.mono hle.le⟩) (hx.trans hle) I' hv
theorem parse_sound (ok : KOk Tryz.prog W ρ K) (hg : LaidType W) : ∀ vs h, parseP K m vs h ≠ .bad → hasBody Tryz.prog 11 = true ∧ ∀ ι w vs', Inv W ρ ι h w → RelL W ρ ι vs vs' → Calls Tryz.prog 11 vs'.toArray w (CallPost W ρ ι h (parseP K m vs h)) := by
  intro vs h hb
  unfold parseP at hb ⊢
  split at hb
  · rename_i s
    refine ⟨by kernel_rfl, fun ι w vs' I hv => ?_⟩
    have hst : St W ρ 20 ι (envOf [.str s]) h { tmps := vs'.toArray ++ Array.replicate (Tryz.f11.ntmps - vs'.toArray.size) undef, defers := [] } w := by
      have hv_get := RelL.get hv
      have hl := hv.length
      refine ⟨?_, ?_, I⟩
      · intro t v hv
        rw [envOf_get] at hv
        obtain ⟨v', k1, k2⟩ := hv_get t v hv
        refine ⟨v', ?_, k2⟩
        have hlt := (List.getElem?_eq_some_iff.1 k1).1
        rw [Array.getElem?_append_left (by simpa using hlt)]; simpa using k1
      · have : Tryz.f11.ntmps = 20 := by kernel_rfl
        simp [this]; omega
    refine calls_of_wp_defers Tryz.func11 b11_eq ?_
    refine wp_seq ?_
    cases hr0 : runC K m k11_0 (envOf [.str s]) h with
    | norm e0 h0 =>
      rw [hr0] at hb
      dsimp only at hb ⊢
      refine (run_sound ok m).1 pc0 k11_0 20 ι _ h _ w _ t11_0 hst (by rw [hr0]; simp) ?_
      rw [hr0]
      intro ι0 a0 w0 g0
      show (Code.seq pc1 (.seq pc3 (.seq pc4 pc5))).wp Tryz.prog _ a0 w0
      refine wp_seq ?_
      cases hr1 : runC K m k11_1 e0 h0 with
      | ret e1 h1 =>
        rw [hr1] at hb
        dsimp only at hb ⊢
        refine (run_sound ok m).1 pc1 k11_1 20 ι0 _ h0 _ w0 _ t11_1 g0.st (by rw [hr1]; simp) ?_
        rw [hr1]
        intro ι1 a1 w1 g1
        have g := g0.trans g1
        show Leaves Tryz.prog Tryz.f11 a1.tmps _ a1.defers .returning w1
        rw [g.defers]
        exact res_of g.st.env g.le g.st.inv hb
      | norm e1 h1 =>
        rw [hr1] at hb
        dsimp only at hb ⊢
        refine (run_sound ok m).1 pc1 k11_1 20 ι0 _ h0 _ w0 _ t11_1 g0.st (by rw [hr1]; simp) ?_
        rw [hr1]
        intro ι1 a1 w1 g1
        have g := g0.trans g1
        show (Code.seq pc3 (.seq pc4 pc5)).wp Tryz.prog _ a1 w1
        refine wp_seq ?_
        cases hr3 : runC K m k11_3 e1 h1 with
        | norm e3 h3 =>
          rw [hr3] at hb
          dsimp only at hb ⊢
          refine (run_sound ok m).1 pc3 k11_3 20 ι1 _ h1 _ w1 _ t11_3 g.st (by rw [hr3]; simp) ?_
          rw [hr3]
          intro ι3 a3 w3 g3
          replace g := g.trans g3
          show (Code.seq pc4 pc5).wp Tryz.prog _ a3 w3
          refine wp_seq ?_
          have hs := g.st.size
          obtain ⟨x, hx⟩ : ∃ x, a3.tmps[2]? = some x := ⟨_, Array.getElem?_eq_getElem (by omega)⟩
          obtain ⟨y, hy⟩ : ∃ x, a3.tmps[3]? = some x := ⟨_, Array.getElem?_eq_getElem (by omega)⟩
          obtain ⟨z, hz⟩ : ∃ x, a3.tmps[4]? = some x := ⟨_, Array.getElem?_eq_getElem (by omega)⟩
          refine pc4_wp hs hx hy hz ?_
          show pc5.wp Tryz.prog _ _ w3
          unfold parseEnd at hb ⊢
          have hst5 : St W ρ 20 ι3 (e3.del 12) h3 { tmps := a3.tmps.setIfInBounds 12 (.func (.func 21) #[] #[x, y, z]), defers := { target := .fn (.func 21) #[x, y, z], args := #[] } :: a3.defers } w3 := by
            refine ⟨fun t v hv => ?_, by simpa using hs, g.st.inv⟩
            rw [PT.get_del] at hv
            split at hv
            · cases hv
            · rename_i ht
              obtain ⟨v', k1, k2⟩ := g.st.env t v hv
              exact ⟨v', by rw [Array.getElem?_setIfInBounds_ne (by omega)]; exact k1, k2⟩
          cases hr5 : runC K m k11_5 (e3.del 12) h3 with
          | ret e5 h5 =>
            rw [hr5] at hb
            dsimp only at hb ⊢
            refine (run_sound ok m).1 pc5 k11_5 20 ι3 _ h3 _ w3 _ t11_5 hst5 (by rw [hr5]; simp) ?_
            rw [hr5]
            intro ι5 a5 w5 g5
            exact door_idle ok (x := x) (y := y) (z := z) (by rw [g5.defers, g.defers]) g5.st.env (g.le.trans g5.le) g5.st.inv hb
          | pan v e5 h5 =>
            rw [hr5] at hb
            cases v with
            | iface t v =>
              cases v with
              | ptr b o =>
                dsimp only at hb ⊢
                cases hx2 : e3.get 2 with
                | none => rw [hx2] at hb; exact absurd rfl hb
                | some vx =>
                  cases hy2 : e3.get 3 with
                  | none => rw [hx2, hy2] at hb; exact absurd rfl hb
                  | some vy =>
                    cases hz2 : e3.get 4 with
                    | none => rw [hx2, hy2, hz2] at hb; exact absurd rfl hb
                    | some vz =>
                      rw [hx2, hy2, hz2] at hb
                      dsimp only at hb ⊢
                      cases ht : Nat.beq t 62 with
                      | false => rw [ht] at hb; exact absurd rfl hb
                      | true =>
                        have ht' := beq_iff.1 ht
                        subst ht'
                        rw [ht] at hb
                        dsimp only at hb ⊢
                        cases hr7 : runC K m k21_1 (envOf [vx, vy, vz, .ptr b o]) h5 with
                        | norm e7 h7 =>
                          rw [hr7] at hb
                          dsimp only at hb ⊢
                          refine (run_sound ok m).1 pc5 k11_5 20 ι3 _ h3 _ w3 _ t11_5 hst5 (by rw [hr5]; simp) ?_
                          rw [hr5]
                          intro ι5 a5 w5 v' g5 hv5
                          obtain ⟨vv, rfl, hvv⟩ := rel_iface hv5
                          obtain ⟨cb, co, sz, hi, rfl⟩ := rel_ptr hvv
                          show Leaves Tryz.prog Tryz.f11 a5.tmps _ a5.defers (.panicking [{ v := .iface 62 (.pointer (some ⟨cb, co + o, none⟩)), recovered := false }]) w5
                          rw [g5.defers, g.defers]
                          refine leaves_cons (f := 21) (args := #[x, y, z]) (by simp) (by simp [go_sem]) ?_
                          obtain ⟨x1, q1, r1⟩ := g.st.env 2 vx hx2
                          obtain ⟨y1, q2, r2⟩ := g.st.env 3 vy hy2
                          obtain ⟨z1, q3, r3⟩ := g.st.env 4 vz hz2
                          obtain rfl : x = x1 := Option.some.inj (hx.symm.trans q1)
                          obtain rfl : y = y1 := Option.some.inj (hy.symm.trans q2)
                          obtain rfl : z = z1 := Option.some.inj (hz.symm.trans q3)
                          refine (closure_pan ok hg g5.st.inv (r1.mono g5.le.le) (r2.mono g5.le.le) (r3.mono g5.le.le) hvv hr7).mono ?_
                          rintro e' u' w' ⟨rfl, rfl, ι', hle, I'⟩
                          show Leaves Tryz.prog Tryz.f11 a5.tmps _ [] (Go.settle _) w'
                          exact res_of (fun t v hv => by obtain ⟨v', k1, k2⟩ := g5.st.env t v hv; exact ⟨v', k1, k2.mono hle.le⟩) ((g.le.trans g5.le).trans hle) I' hb
                        | ret e7 h7 => rw [hr7] at hb; exact absurd rfl hb
                        | pan v e7 h7 => rw [hr7] at hb; exact absurd rfl hb
                        | exit i e7 h7 => rw [hr7] at hb; exact absurd rfl hb
                        | bad => rw [hr7] at hb; exact absurd rfl hb
              | _ => exact absurd rfl hb
            | _ => exact absurd rfl hb
          | norm e5 h5 => rw [hr5] at hb; exact absurd rfl hb
          | exit i e5 h5 => rw [hr5] at hb; exact absurd rfl hb
          | bad => rw [hr5] at hb; exact absurd rfl hb
        | ret e3 h3 => rw [hr3] at hb; exact absurd rfl hb
        | pan v e3 h3 => rw [hr3] at hb; exact absurd rfl hb
        | exit i e3 h3 => rw [hr3] at hb; exact absurd rfl hb
        | bad => rw [hr3] at hb; exact absurd rfl hb
      | pan v e1 h1 => rw [hr1] at hb; exact absurd rfl hb
      | exit i e1 h1 => rw [hr1] at hb; exact absurd rfl hb
      | bad => rw [hr1] at hb; exact absurd rfl hb
    | ret e0 h0 => rw [hr0] at hb; exact absurd rfl hb
    | pan v e0 h0 => rw [hr0] at hb; exact absurd rfl hb
    | exit i e0 h0 => rw [hr0] at hb; exact absurd rfl hb
    | bad => rw [hr0] at hb; exact absurd rfl hb
  · exact absurd rfl hb
end
end Go.KM.Tryz
