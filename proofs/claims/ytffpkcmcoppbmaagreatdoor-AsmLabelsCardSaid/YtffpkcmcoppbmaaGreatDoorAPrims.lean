/-
  The library's functions that the parser calls, for the small machine: cut at a byte, cut into words, a byte's first place.
-/
import Derived.Test.YtffpkcmcoppbmaaGreatDoorAPlain
import Derived.Test.YtffpkcmcoppbmaaGreatDoorAParse
import Derived.Test.YtffpkcmcoppbmaaGreatDoorAShelf
import Derived.Lib.SplitLaws
import Derived.WalkSmall
namespace Go.KM.Tryz
open Go Go.RowKit Go.Proofs Go.Lib

noncomputable def strs (l : List (List Nat)) : List AV := List.rec (motive := fun _ => List AV) [] (fun s _ ih => .str s :: ih) l
theorem strs_eq (l : List (List Nat)) : strs l = l.map .str := by
  induction l with
  | nil => rfl
  | cons s l ih => show AV.str s :: strs l = _; rw [ih]; rfl
/-- New texts, as a slice. -/
noncomputable def newStrs (l : List (List Nat)) (h : AH) : R AV := forceN (lenN l) fun n => .ok (.sl h.next 0 n 1 (some n)) (newBlk (.cells (strs l)) h)
def isB (x : Nat) : Bool := Nat.beq x 32 || Nat.beq x 9
noncomputable def indexByteP (vs : List AV) (h : AH) : R AV := match vs with
  | [.str s, .int .u8 (Int.ofNat c)] => Bool.rec (motive := fun _ => R AV) .bad (mkInt .i64 (ixN c s) h) (Nat.blt c 256)
  | _ => .bad
noncomputable def splitP (vs : List AV) (h : AH) : R AV := match vs with
  | [.str s, .str [c]] => Bool.rec (motive := fun _ => R AV) .bad (newStrs (spl c s) h) (Nat.blt (lenN s) 4294967281)
  | _ => .bad
noncomputable def cutP (vs : List AV) (h : AH) : R AV := match vs with
  | [.str s, .str [c]] => Bool.rec (motive := fun _ => R AV) .bad (match cutN c s with
    | some (a, b) => .ok (.tup [.str a, .str b, .bool true]) h
    | none => .ok (.tup [.str s, .str [], .bool false]) h) (Nat.blt (lenN s) 4294967281)
  | _ => .bad
noncomputable def fieldsP (vs : List AV) (h : AH) : R AV := match vs with
  | [.str s, .func f [] []] => Bool.rec (motive := fun _ => R AV) .bad (newStrs (wg isB [] s) h) (Bool.and (Nat.beq f 100) (Nat.ble (lenN s) 4294967296))
  | _ => .bad

section
variable {W : World} {ρ : Nat → Int}
theorem newStrs_eq (l : List (List Nat)) (h : AH) : newStrs l h = .ok (.sl h.next 0 l.length 1 (some l.length)) (newBlk (.cells (l.map .str)) h) := by
  unfold newStrs; rw [forceN_eq, lenN_eq, strs_eq]
theorem take_block {ι : Inj} {h : AH} {w w' : World} (I : Inv W ρ ι h w) (hb : Below w.heap.size w w') {A : Nat} (hA : w.heap.size ≤ A) {c : Array Value} {ty : TypeId} {fr : Nat × Nat} (hw : w'.heap[A]? = some (.cells c ty fr))
    (hf : fr.2 ≤ fr.1 ∨ c.size ≤ fr.1) {cs : List AV} (hr : CellsAt W ρ ι c 0 cs) : Inv W ρ (ι.put h.next (A, 0, c.size)) (newBlk (.cells cs) h) w' := by
  have hd := I.dom_none (Nat.le_refl h.next)
  have hle := Inj.le_put ι h.next (A, 0, c.size) hd
  have J := I.later hb
  have hlt : A < w'.heap.size := (Array.getElem?_eq_some_iff.1 hw).1
  have hWs := I.below.size
  have old : ∀ b p, (ι.put h.next (A, 0, c.size)) b = some p → b ≠ h.next → ι b = some p := fun b p e hn => by
    unfold Inj.put at e
    rwa [if_neg hn] at e
  have new : ∀ p, (ι.put h.next (A, 0, c.size)) h.next = some p → p = (A, 0, c.size) := fun p e => by
    rw [Inj.put_same] at e; injection e with e; exact e.symm
  have hget : ∀ b, b ≠ h.next → (newBlk (.cells cs) h).m.get b = h.m.get b := fun b hn => by rw [newBlk_get, if_neg hn]
  have hgetn : (newBlk (.cells cs) h).m.get h.next = some (.cells cs) := by rw [newBlk_get, if_pos rfl]
  refine ⟨J.below, ?_, ?_, ?_, ?_, ?_⟩
  · intro b p e
    by_cases hn : b = h.next
    · subst hn; exact Nat.lt_succ_self _
    · exact Nat.lt_succ_of_lt (I.dom b p (old b p e hn))
  · intro b cb co sz e
    by_cases hn : b = h.next
    · subst hn
      have := new _ e
      injection this with e1 e2
      subst e1
      exact ⟨by omega, hlt⟩
    · exact J.rng b cb co sz (old b _ e hn)
  · intro b ds cb co sz e hc
    by_cases hn : b = h.next
    · subst hn
      have := new _ e
      injection this with e1 e2
      injection e2 with e2 e3
      subst e1; subst e2; subst e3
      rw [hgetn] at hc
      injection hc with hc; injection hc with hc; subst hc
      exact ⟨c, ty, fr, hw, rfl, hf, hr.mono hle⟩
    · rw [hget b hn] at hc
      obtain ⟨c', e', fr', k1, k2, k3, k4⟩ := J.cells b ds cb co sz (old b _ e hn) hc
      exact ⟨c', e', fr', k1, k2, k3, k4.mono hle⟩
  · intro b es cb co sz e hc
    by_cases hn : b = h.next
    · subst hn; rw [hgetn] at hc; cases hc
    · rw [hget b hn] at hc
      obtain ⟨ents, clock, k1, k2⟩ := J.mps b es cb co sz (old b _ e hn) hc
      exact ⟨ents, clock, k1, k2.mono hle⟩
  · intro b b' p p' e e' hn hn' hp
    by_cases k : b = h.next
    · by_cases k' : b' = h.next
      · rw [k, k']
      · subst k
        have := new _ e
        subst this
        have h2 := (I.rng b' p'.1 p'.2.1 p'.2.2 (old b' _ e' k')).2
        have hp : A = p'.1 := hp
        omega
    · by_cases k' : b' = h.next
      · subst k'
        have := new _ e'
        subst this
        have h2 := (I.rng b p.1 p.2.1 p.2.2 (old b _ e k)).2
        have hp : p.1 = A := hp
        omega
      · exact J.inj b b' p p' (old b p e k) (old b' p' e' k') (by rwa [hget b k] at hn) (by rwa [hget b' k'] at hn') hp
theorem strs_cells {ι : Inj} {l : List (List Nat)} {bs : List ByteArray} (hl : bs.map bytesOf = l) {c : Array Value} (hc : c.toList.take bs.length = bs.map Value.string) (hs : bs.length ≤ c.size) : CellsAt W ρ ι c 0 (l.map .str) := by
  subst hl
  refine ⟨by simpa using hs, fun i v hv => ?_⟩
  simp only [List.getElem?_map] at hv
  cases hb : bs[i]? with
  | none => rw [hb] at hv; cases hv
  | some b =>
    rw [hb] at hv
    injection hv with hv; subst hv
    have hlt := (List.getElem?_eq_some_iff.1 hb).1
    refine ⟨.string b, ?_, .str b⟩
    have h2 : (c.toList.take bs.length)[i]? = some (.string b) := by rw [hc, List.getElem?_map, hb]; rfl
    rw [List.getElem?_take_of_lt hlt] at h2
    simpa using h2
theorem word_char (x : Nat) (w : World) : Calls Tryz.prog 100 #[.int .i32 x] w fun e w' => e = .returned (.bool (isB x)) ∧ w' = w := by
  by_cases h1 : x = 32
  · subst h1
    go_enter Tryz.func100, Tryz.ntmps100
    go_wp2
    go_ret
    exact ⟨rfl, rfl⟩
  · by_cases h2 : x = 9
    · subst h2
      go_enter Tryz.func100, Tryz.ntmps100
      go_wp2
      go_ret
      exact ⟨rfl, rfl⟩
    · have k1 : ((x : Int) == 32) = false := by rw [beq_eq_false_iff_ne]; omega
      have k2 : ((x : Int) == 9) = false := by rw [beq_eq_false_iff_ne]; omega
      have k3 : isB x = false := by
        unfold isB
        rw [PT.beq_ne h1, PT.beq_ne h2]; rfl
      rw [k3]
      go_enter Tryz.func100, Tryz.ntmps100
      go_wp2
      go_ret
      exact ⟨rfl, rfl⟩
theorem pred_words (w : World) : PredAtRunes Tryz.prog 100 #[] isB w := fun W x _ _ => (word_char x W).mono fun e w' h => ⟨h.1, 0, h.2⟩
theorem isB_low (x : Nat) (h : 128 ≤ x) : isB x = false := by
  unfold isB
  rw [PT.beq_ne (by omega), PT.beq_ne (by omega)]; rfl
theorem bytes_len (s : ByteArray) : (bytesOf s).length = s.size := by simp [bytesOf]
theorem rel_str {ι : Inj} {s : List Nat} {x' : Value} (h : Rel W ρ ι (.str s) x') : ∃ b : ByteArray, x' = .string b ∧ bytesOf b = s := by
  cases h with
  | str b => exact ⟨b, rfl, rfl⟩
theorem two {ι : Inj} {a b : AV} {vs' : List Value} (h : RelL W ρ ι [a, b] vs') : ∃ a' b', vs' = [a', b'] ∧ Rel W ρ ι a a' ∧ Rel W ρ ι b b' := by
  cases h with
  | cons _ a' _ l ha hl => cases hl with
    | cons _ b' _ l hb hl => cases hl with
      | nil => exact ⟨a', b', rfl, ha, hb⟩
theorem indexByte_sound : ∀ vs h, indexByteP vs h ≠ .bad → hasBody Tryz.prog 98 = true ∧ ∀ ι w vs', Inv W ρ ι h w → RelL W ρ ι vs vs' → Calls Tryz.prog 98 vs'.toArray w (CallPost W ρ ι h (indexByteP vs h)) := by
  intro vs h hb
  unfold indexByteP at hb ⊢
  split at hb
  · rename_i s c
    cases hc : Nat.blt c 256 with
    | false => rw [hc] at hb; exact absurd rfl hb
    | true =>
      refine ⟨by kernel_rfl, fun ι w vs' I hv => ?_⟩
      obtain ⟨a', b', rfl, ha, hb'⟩ := two hv
      obtain ⟨b, rfl, rfl⟩ := rel_str ha
      cases hb' with
      | int _ _ =>
        refine (Tryz.strings_IndexByte b (Int.ofNat c) w).mono fun e w' he => ?_
        obtain ⟨rfl, rfl⟩ := he
        have hlt := blt_iff.1 hc
        have hn : (Int.ofNat c).toNat.toUInt8.toNat = c := by
          show (UInt8.ofNat c).toNat = c
          rw [UInt8.toNat_ofNat']; omega
        rw [ixN_ok, hn]
        show CallPost W ρ ι h (mkInt .i64 (ixN c (bytesOf b)) h) _ _
        rw [mkInt_eq]
        exact ⟨ι, .refl ι h, I, .int _ _⟩
  · exact absurd rfl hb
abbrev LaidLen (W : World) : Prop := ∃ m : Int, W.cell? ⟨2, 0, none⟩ = some (.int .i64 m)
theorem newStrs_post {ι : Inj} {h : AH} {w w' : World} (I : Inv W ρ ι h w) (hb : Below w.heap.size w w') {A : Nat} (hA : w.heap.size ≤ A) {c : Array Value} {ty : TypeId} {fr : Nat × Nat} (hw : w'.heap[A]? = some (.cells c ty fr)) (hf : fr.2 ≤ fr.1)
    {l : List (List Nat)} {bs : List ByteArray} (hl : bs.map bytesOf = l) (hc : c.toList.take bs.length = bs.map Value.string) (hs : bs.length ≤ c.size) {n : Nat} (hn : n = l.length) :
    CallPost W ρ ι h (newStrs l h) (.returned (.slice (some ⟨A, 0, none⟩) n n)) w' := by
  rw [newStrs_eq, hn]
  have hd := I.dom_none (Nat.le_refl h.next)
  exact ⟨_, .put h.next (A, 0, c.size) rfl hd rfl, take_block I hb hA hw (.inl hf) (strs_cells hl hc hs), .sl _ _ _ _ _ A 0 c.size (Inj.put_same _ _ _)⟩
theorem split_sound (hm : LaidLen W) : ∀ vs h, splitP vs h ≠ .bad → hasBody Tryz.prog 48 = true ∧ ∀ ι w vs', Inv W ρ ι h w → RelL W ρ ι vs vs' → Calls Tryz.prog 48 vs'.toArray w (CallPost W ρ ι h (splitP vs h)) := by
  intro vs h hb
  unfold splitP at hb ⊢
  split at hb
  · rename_i s c
    cases hc : Nat.blt (lenN s) 4294967281 with
    | false => rw [hc] at hb; exact absurd rfl hb
    | true =>
      refine ⟨by kernel_rfl, fun ι w vs' I hv => ?_⟩
      obtain ⟨a', b', rfl, ha, hb'⟩ := two hv
      obtain ⟨b, rfl, rfl⟩ := rel_str ha
      obtain ⟨sep, rfl, hsep⟩ := rel_str hb'
      obtain ⟨m, hm⟩ := hm
      have hlt := blt_iff.1 hc
      rw [lenN_eq, bytes_len] at hlt
      have hs1 : sep.size = 1 := by rw [← bytes_len, hsep]; rfl
      obtain ⟨u, hu⟩ : ∃ u : UInt8, sep.data.toList = [u] := by
        have : sep.data.toList.length = 1 := by simpa using hs1
        match hl : sep.data.toList, this with
        | [u], _ => exact ⟨u, rfl⟩
      have huc : u.toNat = c := by
        have h2 := hsep
        unfold bytesOf at h2
        rw [hu] at h2; simpa using h2
      have hsp := spl_ok b sep u hu
      rw [huc] at hsp
      refine (Tryz.strings_Split b sep m w hlt (I.roCell hm) (by omega)).mono fun e w' he => ?_
      obtain ⟨rfl, rfl⟩ := he
      show CallPost W ρ ι h (newStrs (spl c (bytesOf b)) h) _ _
      have hlen : (splitB sep 0 (countB b sep) b).length = countB b sep + 1 := splitB_all sep (by omega) 0 _ b rfl
      refine newStrs_post I ((Below.refl _ _).alloc (Nat.le_refl _) _) (Nat.le_refl _) (c := ((splitB sep 0 (countB b sep) b).map Value.string).toArray) (ty := 9) (fr := (0, 0)) (by show (w.heap.push _)[w.heap.size]? = _; simp) (Nat.le_refl _) hsp (List.take_of_length_le (by simp)) (by simp) ?_
      rw [← hsp, List.length_map, hlen]
  · exact absurd rfl hb
theorem cut_sound (hm : LaidLen W) : ∀ vs h, cutP vs h ≠ .bad → hasBody Tryz.prog 143 = true ∧ ∀ ι w vs', Inv W ρ ι h w → RelL W ρ ι vs vs' → Calls Tryz.prog 143 vs'.toArray w (CallPost W ρ ι h (cutP vs h)) := by
  intro vs h hb
  unfold cutP at hb ⊢
  split at hb
  · rename_i s c
    cases hc : Nat.blt (lenN s) 4294967281 with
    | false => rw [hc] at hb; exact absurd rfl hb
    | true =>
      refine ⟨by kernel_rfl, fun ι w vs' I hv => ?_⟩
      obtain ⟨a', b', rfl, ha, hb'⟩ := two hv
      obtain ⟨b, rfl, rfl⟩ := rel_str ha
      obtain ⟨sep, rfl, hsep⟩ := rel_str hb'
      obtain ⟨m, hm⟩ := hm
      have hlt := blt_iff.1 hc
      rw [lenN_eq, bytes_len] at hlt
      have hs1 : sep.size = 1 := by rw [← bytes_len, hsep]; rfl
      obtain ⟨u, hu⟩ : ∃ u : UInt8, sep.data.toList = [u] := by
        have : sep.data.toList.length = 1 := by simpa using hs1
        match hl : sep.data.toList, this with
        | [u], _ => exact ⟨u, rfl⟩
      have huc : u.toNat = c := by
        have h2 := hsep
        unfold bytesOf at h2
        rw [hu] at h2; simpa using h2
      have hct := cutN_ok u b.data.toList
      rw [huc] at hct
      refine (Tryz.strings_Cut b sep m w hlt (I.roCell hm)).mono fun e w' he => ?_
      obtain ⟨rfl, q, rfl⟩ := he
      have I' := I.later (below_drewN (Below.refl _ _) q)
      show CallPost W ρ ι h (match cutN c (bytesOf b) with
        | some (a, b) => .ok (.tup [.str a, .str b, .bool true]) h
        | none => .ok (.tup [.str (bytesOf b), .str [], .bool false]) h) _ _
      have hbb : bytesOf b = b.data.toList.map UInt8.toNat := rfl
      have mk : ∀ l : List UInt8, bytesOf ⟨l.toArray⟩ = l.map UInt8.toNat := fun l => by simp [bytesOf]
      have rs : ∀ (l : List UInt8) (ι : Inj), Rel W ρ ι (.str (l.map UInt8.toNat)) (.string ⟨l.toArray⟩) := fun l ι => by
        have := Rel.str (W := W) (ρ := ρ) (ι := ι) ⟨l.toArray⟩
        rwa [mk] at this
      rw [hbb, hct, hu]
      unfold Lib.cut
      by_cases hi : 0 ≤ Lib.index b.data.toList [u]
      · rw [if_pos hi, if_pos hi]
        exact ⟨ι, .refl ι h, I', .tup _ _ (.cons _ _ _ _ (rs _ ι) (.cons _ _ _ _ (rs _ ι) (.cons _ _ _ _ (.bool true) .nil)))⟩
      · rw [if_neg hi, if_neg hi]
        exact ⟨ι, .refl ι h, I', .tup _ _ (.cons _ _ _ _ (rs _ ι) (.cons _ _ _ _ (rs [] ι) (.cons _ _ _ _ (.bool false) .nil)))⟩
  · exact absurd rfl hb
theorem fields_sound : ∀ vs h, fieldsP vs h ≠ .bad → hasBody Tryz.prog 99 = true ∧ ∀ ι w vs', Inv W ρ ι h w → RelL W ρ ι vs vs' → Calls Tryz.prog 99 vs'.toArray w (CallPost W ρ ι h (fieldsP vs h)) := by
  intro vs h hb
  unfold fieldsP at hb ⊢
  split at hb
  · rename_i s f
    cases hc : Bool.and (Nat.beq f 100) (Nat.ble (lenN s) 4294967296) with
    | false => rw [hc] at hb; exact absurd rfl hb
    | true =>
      refine ⟨by kernel_rfl, fun ι w vs' I hv => ?_⟩
      obtain ⟨a', b', rfl, ha, hb'⟩ := two hv
      obtain ⟨b, rfl, rfl⟩ := rel_str ha
      obtain ⟨h1, h2⟩ := and_iff.1 hc
      have h1 := beq_iff.1 h1
      have h2 := ble_iff.1 h2
      subst h1
      rw [lenN_eq, bytes_len] at h2
      cases hb' with
      | func _ _ _ x y hx hy =>
        have ex : x = #[] := by
          have := hx.length
          simpa using this.symm
        have ey : y = #[] := by
          have := hy.length
          simpa using this.symm
        subst ex; subst ey
        refine (Tryz.strings_FieldsFunc_runes 100 #[] (enters_of Tryz.func100 (by kernel_rfl) rfl) isB b w h2 (pred_words w)).mono fun e w' he => ?_
        obtain ⟨A, rfl, hA, hown, hbel⟩ := he
        show CallPost W ρ ι h (newStrs (wg isB [] (bytesOf b)) h) _ _
        have hwd := words_ok isB isB_low b
        obtain ⟨-, ⟨hnil, -⟩ | ⟨g, cap, cur, hv, hg, hcur, hle, -, hsz, htake⟩⟩ := hown
        · cases hnil
        · injection hv with e1 e2 e3
          injection e1 with e1
          injection e1 with e1
          subst e1; subst e3
          rw [Nat.mul_one] at hsz htake
          exact newStrs_post I hbel hA hcur (Nat.le_refl _) hwd htake (by omega) (by rw [← hwd, List.length_map])
  · exact absurd rfl hb
end
end Go.KM.Tryz
