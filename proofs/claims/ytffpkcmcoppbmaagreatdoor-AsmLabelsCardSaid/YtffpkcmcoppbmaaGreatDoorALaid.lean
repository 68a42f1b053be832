/-
  What the program's variables hold when a call begins: out of the row's hypothesis.
-/
import Derived.Test.YtffpkcmcoppbmaaGreatDoorRows
import Derived.Test.YtffpkcmcoppbmaaGreatDoorAScen
import Derived.LaidHandle
import Derived.LaidMore
import Derived.OpenShut
import Derived.Shelf.Vars
import Derived.Handed
import Derived.ProofKit
namespace Go.KM.Tryz
open Go Go.RowKit Go.Proofs Go.ChangeShapes Go.WideShapes

abbrev laidL : List (String × DataW Unit) := Go.Proofs.YtffpkcmcoppbmaaGreatDoor.Rows.asmLabelsRow.laid
theorem laid_mem {P : Program} {w : World} {n : String} {d : DataW Unit} : ∀ {l : List (String × DataW Unit)} {ps : List MemPlace}, DataW.LaidVars P w l ps → (n, d) ∈ l →
    ∃ g t cs fuel p, P.globalNamed n = some g ∧ (P.globals[g]?).map (·.type) = some t ∧ w.var? P n = some cs ∧ DataW.trod (fun _ => ()) P w 0 (fun _ => true) false fuel t cs.toList = some (d, p)
  | [], _, _, hm => by cases hm
  | (n', d') :: r, ps, h, hm => by
    obtain ⟨g, t, cs, fuel, p, q, h1, h2, h3, h4, h5, -⟩ := h
    cases hm with
    | head => exact ⟨g, t, cs, fuel, p, h1, h2, h3, h4⟩
    | tail _ hm => exact laid_mem h5 hm
theorem laid_both {P : Program} {L : List (String × DataW Unit)} {w : World} (h : laidMetH P L w) {x : String × DataW Unit} (hx : x ∈ L.filter fun x => x.2.handleName?.isSome) :
    laidMet P (L.filter fun x => x.2.handleName?.isNone) w ∧ handlesMet P (L.filter fun x => x.2.handleName?.isSome) w := by
  unfold laidMetH at h
  split at h
  · rename_i he; rw [he] at hx; cases hx
  · rename_i he; rw [he]; exact h
theorem gNames : Tryz.prog.globalNamed "windrow/code.names" = some 1 := by kernel_rfl
theorem gType : Tryz.prog.globalNamed "errors.errorType" = some 0 := by kernel_rfl
theorem tNames : (Tryz.prog.globals[1]?).map (·.type) = some 186 := by kernel_rfl
theorem cells9 : Tryz.prog.cellsOf 9 = 1 := by kernel_rfl
theorem rtypeNo : (Tryz.prog.cutTypes.find? (·.1 == "internal/reflectlite.rtype")).map (·.2) = some 194 := by kernel_rfl
theorem oneRow : ((List.range 289).filter fun t => Tryz.prog.rowNamed t [101, 114, 114, 111, 114]) = [110] := by kernel_rfl
theorem typesSize : Tryz.prog.types.size = 289 := by kernel_rfl
theorem inNames : ("windrow/code.names", Go.Proofs.YtffpkcmcoppbmaaGreatDoor.Rows.laid_windrow_code_names) ∈ laidL := .tail _ (.tail _ (.tail _ (.tail _ (.head _))))
theorem inType : ("errors.errorType", Go.Proofs.YtffpkcmcoppbmaaGreatDoor.Rows.laid_errors_errorType) ∈ laidL := .tail _ (.tail _ (.tail _ (.tail _ (.tail _ (.head _)))))
theorem namesData : (Go.Proofs.YtffpkcmcoppbmaaGreatDoor.Rows.laid_windrow_code_names : DataW Unit) = .agg (opNames.map fun s => .lit (.string (s.map UInt8.ofNat))) := by kernel_rfl
theorem low_names : ∀ s ∈ opNames, ∀ x ∈ s, x < 256 := by decide
theorem laid_type {W : World} (h : laidMetH Tryz.prog laidL W) : LaidType W := by
  have hm : ("errors.errorType", Go.Proofs.YtffpkcmcoppbmaaGreatDoor.Rows.laid_errors_errorType) ∈ laidL.filter fun x => x.2.handleName?.isSome := List.mem_filter.2 ⟨inType, by kernel_rfl⟩
  have hh := (laid_both h hm).2 _ hm
  dsimp only at hh
  rw [show (Go.Proofs.YtffpkcmcoppbmaaGreatDoor.Rows.laid_errors_errorType : DataW Unit).funcsIn? = none from by kernel_rfl] at hh
  obtain ⟨name, u, ty, e1, e2, e3, e4, e5⟩ := hh
  have en : name = [101, 114, 114, 111, 114] := Option.some.inj (e1.symm.trans (by kernel_rfl))
  subst en
  obtain rfl := Option.some.inj (rtypeNo.symm.trans e2)
  have hmm : ty ∈ (List.range 289).filter fun t => Tryz.prog.rowNamed t [101, 114, 114, 111, 114] := List.mem_filter.2 ⟨List.mem_range.2 (by rw [← typesSize]; exact e3), e4⟩
  rw [oneRow] at hmm
  obtain rfl := List.mem_singleton.1 hmm
  have hh : typeHandle Tryz.prog 110 = .pointer (some ⟨10, 110, none⟩) := by kernel_rfl
  rw [hh] at e5
  simpa using World.var?_cell gType e5 0
theorem lit_str {a b : List UInt8} (h : (DataW.lit (.string a) : DataW Unit) = .lit (.string b)) : a = b := by
  injection h with h
  injection h
theorem laid_names {W : World} (h : laidMetH Tryz.prog laidL W) : LaidNames W := by
  have hm : ("errors.errorType", Go.Proofs.YtffpkcmcoppbmaaGreatDoor.Rows.laid_errors_errorType) ∈ laidL.filter fun x => x.2.handleName?.isSome := List.mem_filter.2 ⟨inType, by kernel_rfl⟩
  obtain ⟨ps, hv, -, -⟩ := (laid_both h hm).1
  obtain ⟨g, t, cs, fuel, p, h1, h2, h3, h4⟩ := laid_mem hv (List.mem_filter.2 ⟨inNames, by kernel_rfl⟩)
  obtain rfl := Option.some.inj (gNames.symm.trans h1)
  obtain rfl := Option.some.inj (tNames.symm.trans h2)
  obtain ⟨xs, m, rfl, hx, hlen, hn, hel⟩ := DataW.trod_array Tryz.underlying186 h4
  rw [namesData] at hx
  have hxs : opNames.map (fun s => (.lit (.string (s.map UInt8.ofNat)) : DataW Unit)) = xs.map (·.1) := by
    have := congrArg Prod.fst hx
    injection this
  intro i s hs
  have hi : i < 40 := by
    have := (List.getElem?_eq_some_iff.1 hs).1
    exact this
  have he := hel i hi
  have hxi : i < xs.length := by omega
  rw [List.getElem?_eq_getElem hxi] at he
  obtain ⟨b, e1, e2, -⟩ := DataW.trod_string Tryz.underlying9 he
  have h5 : (xs.map (·.1))[i]? = some (.lit (.string (s.map UInt8.ofNat))) := by rw [← hxs, List.getElem?_map, hs]; rfl
  rw [List.getElem?_map, List.getElem?_eq_getElem hxi] at h5
  have h6 : (xs[i]).1 = .lit (.string (s.map UInt8.ofNat)) := Option.some.inj h5
  rw [e2] at h6
  have h7 : b.data.toList = s.map UInt8.ofNat := lit_str h6
  refine ⟨b, ?_, ?_⟩
  · unfold bytesOf
    rw [h7, List.map_map]
    have hlow := low_names s (List.mem_of_getElem? hs)
    conv => rhs; rw [← List.map_id s]
    refine List.map_congr_left fun x hx => ?_
    have := hlow x hx
    simp [UInt8.toNat_ofNat']; omega
  · rw [World.var?_cell gNames h3 i]
    rw [cells9, Nat.mul_one] at e1
    have h8 : (cs.toList.drop i)[0]? = some (.string b) := by
      have : ((cs.toList.drop i).take 1)[0]? = some (.string b) := by rw [e1]; rfl
      rwa [List.getElem?_take_of_lt (by omega)] at this
    simpa using h8
theorem lenSize : 2 < Tryz.prog.globals.size := by
  have h : Tryz.prog.globals.size = 10 := by kernel_rfl
  omega
theorem laid_len {W : World} (h : W.ShapedOpen Tryz.prog) : LaidLen W :=
  cell_of_shapedOpen_int (g := 2) (t := 3) (zero := #[.int .i64 0]) h lenSize (by kernel_rfl) rfl (by kernel_rfl) (by kernel_rfl) Tryz.underlying3
theorem of_laid {W : World} (h : laidMetH Tryz.prog laidL W) (hs : W.ShapedOpen Tryz.prog) : Laid W := ⟨laid_type h, laid_len hs, laid_names h⟩
/-- The plain wrap: what is laid, and the world's shape, kept. -/
theorem returnsInHanded_of_laid {H : Type} {enc : TypeId × Value → H} {a : Assume} {C : Checked} {os : Os} {f : FuncId} {fn : Func} {s : ChangeSpec} {conds : List PathCond} {apart fresh handsOn again : Bool} {X : World → Array Value → Prop}
    (hX : ∀ (w w' : World) (args : Array Value), w.heap = w'.heap → X w args → X w' args)
    (own : ownKnob C.prog.godebug = none) (started : os.Started) (noInit : C.prog.inits.idxOf? f = none) (hfn : C.prog.funcs[f]? = some fn)
    (witness : ∃ (w : World) (tape : Tape) (i : Input), w.os = os ∧ (w.forCall tape i).Shaped C.prog ∧ i.vars = [] ∧ Input.okWide C.prog (w.forCall tape i) .any w.heap.size f i ∧
      ((s.pre enc C.prog fn conds apart (w.forCall tape i).memory i.args ∧ X (w.forCall tape i).memory i.args) ∧ sizedMet enc C.prog fn (OpenSpec.ofChange s) apart (w.forCall tape i).memory i.args) ∧ a.holds C.prog (lone (Frame.enter C.prog f i.args .normal) [] (w.forCall tape i)))
    (contract : ∀ (W : World) (base : Nat) (args : Array Value) (ds gs : List (DataW H)) (before : List MemPlace),
      (∀ (j : Nat) t v, fn.params[j]? = some t → args[j]? = some v → Value.okWide C.prog W .any base t v) →
      DataW.Whole enc C.prog fn.params.toList s.vars apart W args.toList ds gs before →
      (DataW.weightsEach C.prog (fn.params.toList ++ s.plain.varTypes C.prog) (ds ++ gs)).all (· ≤ reachBytes) = true → X W args → W.ShapedOpen C.prog →
      Calls C.prog f args W fun e W' => ∃ v, e = .returned v ∧ s.post enc C.prog fn apart fresh handsOn again W args v W') :
    ReturnsInHanded a C os f .any (fun w args => (s.pre enc C.prog fn conds apart w args ∧ X w args) ∧ sizedMet enc C.prog fn (OpenSpec.ofChange s) apart w args) (s.post enc C.prog fn apart fresh handsOn again) := by
  refine returnsInHanded_of_calls own started noInit witness ?_
  intro w tape i _ hsh _ hok hpre hholds
  obtain ⟨_, _, _, fn', hfn', _, _, _, _, hval⟩ := hok
  have e : fn' = fn := Option.some.inj (hfn'.symm.trans hfn)
  subst e
  obtain ⟨⟨⟨ds, gs, before, hw, hc⟩, hx⟩, hz⟩ := hpre
  have hw' := DataW.Whole.of_heap (w' := w.forCall tape i) (by rfl) hw
  refine (contract (w.forCall tape i) w.heap.size i.args ds gs before hval hw' (hz.weights hw) (hX _ _ _ (by rfl) hx) hsh).mono fun e W' ⟨v, he, hp⟩ => ?_
  subst he
  exact ChangeSpec.post_blind hp
end Go.KM.Tryz
