/-
  The one function of the road that ranges over a map: the lowest key.
-/
import Derived.Test.YtlcjlppdhjelfaaKTape
import Derived.Test.YtlcjlppdhjelfaaKTop
import Derived.Test.YtlcjlppdhjelfaaChecked
import Derived.WalkKit
import Derived.MapKept
namespace Go.KM.Try
open Go.RowKit Go.Proofs

def keyOf (x : MapEntry) : Int := match x.key with | .int _ n => n | _ => 0
set_option maxRecDepth 1000000 in
set_option maxHeartbeats 1000000 in
theorem lowest_walk (fb fo bm : Nat) (base : Option Addr) (n cap : Nat) (es : Array MapEntry) (clock : Nat) (w : World) (hc : w.cell? ⟨fb, fo + 7, none⟩ = some (.slice base n cap)) (hm : w.cell? ⟨fb, fo + 9, none⟩ = some (.map (some bm)))
    (hb : w.heap[bm]? = some (.map es clock)) (hst : Born es clock) (hv : ∀ x ∈ es.toList, ∃ v, x.key = .int .i64 v) :
    Calls Try.prog 64 #[.pointer (some ⟨fb, fo, none⟩)] w fun e w' => (∃ m : Int, e = .returned (.int .i64 m) ∧ m ≤ n ∧ (m = n ∨ ∃ x ∈ es.toList, keyOf x = m) ∧ ∀ x ∈ es.toList, m ≤ keyOf x) ∧
      ∃ (w1 : World) (seen : Array Nat), w1.Alike w ∧ w1.tape = w.tape ∧ w' = w1.alloc (.mapIter (some bm) clock seen clock) := by
  have hrg := run_range_map (P := Try.prog) w 90 3 3 bm es clock Try.underlying90 hb
  go_enter Try.func64, Try.ntmps64
  go_wp2
  go_loopw [3] (fun s w' => ∃ (w1 : World) (seen : Array Nat), w1.Alike w ∧ w1.tape = w.tape ∧ w' = w1.alloc (.mapIter (some bm) clock seen clock) ∧ ∃ m : Int, s = .int .i64 m ∧ m ≤ n ∧ (m = n ∨ ∃ x ∈ es.toList, keyOf x = m) ∧
    ∀ x ∈ es.toList, seen.contains x.born = true → m ≤ keyOf x) (fun _ w' => (leftOf es (w'.iterSeen w.heap.size)).size)
  case atStart => exact ⟨w, #[], ⟨rfl, rfl, rfl⟩, rfl, rfl, n, rfl, Int.le_refl _, .inl rfl, fun x _ h => by simp at h⟩
  case round =>
    obtain ⟨w1, seen, hal, htp, rfl, m, rfl, hmn, hor, hall⟩ := hrel
    have hsz : w1.heap.size = w.heap.size := by rw [hal.1]
    have hb1 : w1.heap[bm]? = some (.map es clock) := by rw [hal.1]; exact hb
    have law := run_next_map (P := Try.prog) w1 0 bm clock clock seen es clock hb1 hst.1 (Nat.le_refl _)
    rw [hsz] at law
    rcases law with ⟨h0, hrun⟩ | ⟨e, he, w2, hal2, hrun⟩
    · have hnx : ∀ ty, (Instr.next (.pointer (some ⟨w.heap.size, 0, none⟩)) false ty).run Try.prog (w1.alloc (.mapIter (some bm) clock seen clock)) = _ := fun _ => hrun
      go_wp2
      go_ret
      exact ⟨⟨m, rfl, hmn, hor, fun x hx => hall x hx (all_seen es seen h0 x hx)⟩, w1, seen, hal, htp, rfl⟩
    · obtain ⟨v, hval⟩ := hv e (mem_left he).1
      rw [hval] at hrun
      have htp2 : w2.tape = w1.tape := tape_next (P := Try.prog) _ 0 (w1.alloc _) _ (w2.alloc _) hrun
      have hnx : ∀ ty, (Instr.next (.pointer (some ⟨w.heap.size, 0, none⟩)) false ty).run Try.prog (w1.alloc (.mapIter (some bm) clock seen clock)) = _ := fun _ => hrun
      have hsz2 : w2.heap.size = w.heap.size := by rw [hal2.1, hal.1]
      have hb2 : w2.heap[bm]? = some (.map es clock) := by rw [hal2.1]; exact hb1
      have hen := run_entry_map (P := Try.prog) w2 bm clock seen es clock e hb2 (mem_left he).1 hst.2
      rw [hsz2, hval] at hen
      go_wp2
      go_roundw
      case rel =>
        refine ⟨w2, seen.push e.born, ⟨hal2.1.trans hal.1, hal2.2.1.trans hal.2.1, hal2.2.2.trans hal.2.2⟩, htp2.trans htp, rfl, _, rfl, ?_, ?_, fun x hx hc => ?_⟩
        · split <;> omega
        · split
          · exact .inr ⟨e, (mem_left he).1, by simp [keyOf, hval]⟩
          · exact hor
        · rw [contains_push] at hc
          rcases Bool.or_eq_true _ _ ▸ hc with h1 | h1
          · have := hall x hx h1
            split <;> omega
          · have : x = e := born_inj hst.2 hx (mem_left he).1 (beq_iff_eq.1 h1)
            subst this
            have hk : keyOf x = v := by simp [keyOf, hval]
            rw [hk]
            split <;> omega
      case measure =>
        rw [← hsz2, World.iterSeen_alloc, hsz2, ← hsz, World.iterSeen_alloc]
        exact left_shrinks es seen e he

/-! the same for the small machine -/
noncomputable def minOf (n : Nat) (es : List (AV × AV)) : Int :=
  List.rec (motive := fun _ => Int) (Int.ofNat n) (fun e _ ih => match e.1 with
    | .int _ k => Bool.rec (motive := fun _ => Int) ih k (ltI k ih)
    | _ => ih) es
def isI64 (x : AV) : Bool := match x with
  | .int .i64 _ => true
  | _ => false
noncomputable def lowestP (vs : List AV) (h : AH) : R AV :=
  match vs with
  | [.ptr b o] => match cellsAt b h with
    | some cs => match nth cs (Nat.add o 7), nth cs (Nat.add o 9) with
      | some (.sl _ _ n _ _), some (.map m) => match mpAt m h with
        | some es => Bool.rec (motive := fun _ => R AV) .bad (mkInt .i64 (minOf n es) h) (allB (fun e => isI64 e.1) es)
        | none => .bad
      | _, _ => .bad
    | none => .bad
  | _ => .bad
def lo (n : Nat) (ks : List Int) : Int := ks.foldr (fun k m => if k < m then k else m) n
theorem lo_le (n : Nat) : ∀ ks, lo n ks ≤ n
  | [] => Int.le_refl _
  | k :: ks => by
    have := lo_le n ks
    show (if k < lo n ks then k else lo n ks) ≤ n
    split <;> omega
theorem lo_mem (n : Nat) : ∀ ks, lo n ks = n ∨ lo n ks ∈ ks
  | [] => .inl rfl
  | k :: ks => by
    show (if k < lo n ks then k else lo n ks) = n ∨ (if k < lo n ks then k else lo n ks) ∈ k :: ks
    split
    · exact .inr List.mem_cons_self
    · rcases lo_mem n ks with h | h
      · exact .inl h
      · exact .inr (List.mem_cons_of_mem _ h)
theorem lo_all (n : Nat) : ∀ ks, ∀ k ∈ ks, lo n ks ≤ k
  | [], k, h => by cases h
  | j :: ks, k, h => by
    show (if j < lo n ks then j else lo n ks) ≤ k
    rcases List.mem_cons.1 h with rfl | h
    · split <;> omega
    · have := lo_all n ks k h
      split <;> omega
theorem keys_of {W : World} {ρ : Nat → Int} {ι : Inj} : ∀ {es : List (AV × AV)} {ents : List MapEntry}, RelL W ρ ι (es.map (·.1)) (ents.map (·.key)) → (∀ e ∈ es, isI64 e.1 = true) →
    (∀ n, minOf n es = lo n (ents.map keyOf)) ∧ ∀ x ∈ ents, ∃ v, x.key = .int .i64 v
  | [], [], _, _ => ⟨fun _ => rfl, fun _ h => by cases h⟩
  | [], _ :: _, h, _ => by cases h
  | _ :: _, [], h, _ => by cases h
  | e :: es, x :: ents, h, hk => by
    cases h with
    | cons _ _ _ _ h1 h2 =>
      obtain ⟨i1, i2⟩ := keys_of h2 fun e he => hk e (List.mem_cons_of_mem _ he)
      have hk1 := hk e List.mem_cons_self
      obtain ⟨a, b⟩ := e
      unfold isI64 at hk1
      split at hk1
      · rename_i k ha
        subst ha
        have h1' : Rel W ρ ι (.int .i64 k) x.key := h1
        have hx : x.key = .int .i64 k := by generalize x.key = y at h1'; cases h1'; rfl
        refine ⟨fun n => ?_, fun z hz => ?_⟩
        · have hkx : keyOf x = k := by simp [keyOf, hx]
          show Bool.rec (motive := fun _ => Int) (minOf n es) k (ltI k (minOf n es)) = (if keyOf x < lo n (ents.map keyOf) then keyOf x else lo n (ents.map keyOf))
          rw [i1, hkx, ltI_eq]
          by_cases hlt : k < lo n (ents.map keyOf)
          · rw [if_pos hlt, decide_eq_true hlt]
          · rw [if_neg hlt, decide_eq_false hlt]
        · rcases List.mem_cons.1 hz with rfl | hz
          · exact ⟨k, hx⟩
          · exact i2 z hz
      · cases hk1
theorem lowest_ok {W : World} {ρ : Nat → Int} (vs : List AV) (h : AH) (hb : lowestP vs h ≠ .bad) : hasBody Try.prog 64 = true ∧
    ∀ ι w vs', Inv W ρ ι h w → RelL W ρ ι vs vs' → Calls Try.prog 64 vs'.toArray w (CallPost W ρ ι h (lowestP vs h)) := by
  refine ⟨by decide +kernel, fun ι w vs' I hv => ?_⟩
  unfold lowestP at hb ⊢
  split at hb
  · rename_i b o
    cases hv with
    | cons _ v' _ l' h1 h2 =>
      cases h2
      obtain ⟨cb, co, sz, hι, rfl⟩ := rel_ptr h1
      split at hb
      · rename_i cs hcs
        have hcs := cellsAt_some hcs
        split at hb
        · rename_i b2 o2 n ez cap m hn1 hn2
          rw [nth_eq] at hn1 hn2
          split at hb
          · rename_i es hes
            obtain ⟨v7, c7, r7, -⟩ := I.cell hι hcs _ _ hn1
            obtain ⟨v9, c9, r9, -⟩ := I.cell hι hcs _ _ hn2
            obtain ⟨base, cap', rfl⟩ : ∃ base cap', v7 = .slice base n cap' := by cases r7 <;> exact ⟨_, _, rfl⟩
            obtain ⟨mb, mo, msz, hm, rfl⟩ := rel_map r9
            obtain ⟨ents, clock, hw, hr, hbo⟩ := I.mps _ _ _ _ _ hm (mpAt_some hes)
            cases hall : allB (fun e => isI64 e.1) es with
            | false => rw [hall] at hb; exact absurd rfl hb
            | true =>
              obtain ⟨k1, k2⟩ := keys_of hr.1 ((allB_iff _ _).1 hall)
              refine (lowest_walk cb (co + o) mb base n cap' ents clock w (by rw [Nat.add_assoc]; exact c7) (by rw [Nat.add_assoc]; exact c9) hw hbo k2).mono fun e w' he => ?_
              obtain ⟨⟨q, rfl, q1, q2, q3⟩, w1, seen, hal, htp, rfl⟩ := he
              have hq : q = minOf n es := by
                rw [k1]
                refine Int.le_antisymm ?_ ?_
                · rcases lo_mem n (ents.toList.map keyOf) with h | h
                  · rw [h]; exact q1
                  · obtain ⟨x, hx, hxe⟩ := List.mem_map.1 h
                    rw [← hxe]; exact q3 x hx
                · rcases q2 with rfl | ⟨x, hx, rfl⟩
                  · exact lo_le _ _
                  · exact lo_all _ _ _ (List.mem_map_of_mem hx)
              subst hq
              show CallPost W ρ ι h (mkInt .i64 (minOf n es) h) _ _
              rw [mkInt_eq]
              refine ⟨ι, .refl ι h, ?_, .int _ _⟩
              have I1 : Inv W ρ ι h w1 := by
                obtain ⟨a1, a2, a3⟩ := hal
                refine ⟨⟨a2.trans I.below.os, htp.trans I.below.tape, a3.trans I.below.output, by rw [a1]; exact I.below.size, fun k hk => by rw [a1]; exact I.below.block k hk⟩, I.dom, ?_, ?_, ?_, I.inj⟩ <;> (rw [a1])
                · exact I.rng
                · exact I.cells
                · exact I.mps
              exact I1.more _
          · exact absurd rfl hb
        · exact absurd rfl hb
      · exact absurd rfl hb
  · exact absurd rfl hb
end Go.KM.Try
