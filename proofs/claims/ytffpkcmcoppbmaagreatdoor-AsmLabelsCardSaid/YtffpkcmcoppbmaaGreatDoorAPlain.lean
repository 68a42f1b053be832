/-
  Lists of bytes: cut at a byte, cut into words, a byte's first place: the library's words and ours come to the same.
-/
import Derived.Test.YtffpkcmcoppbmaaGreatDoorKComp
import Derived.Lib.FieldsP
import Derived.Lib.Split
import Derived.Lib.SpaceUEq
import Derived.Lib.DecodeN
namespace Go.KM
open Go.Lib

def ixN (c : Nat) : List Nat → Int
  | [] => -1
  | x :: t => if x = c then 0 else if ixN c t = -1 then -1 else ixN c t + 1
def spl (c : Nat) : List Nat → List (List Nat)
  | [] => [[]]
  | x :: t => if x = c then [] :: spl c t else match spl c t with
    | a :: r => (x :: a) :: r
    | [] => [[x]]
def cutN (c : Nat) : List Nat → Option (List Nat × List Nat)
  | [] => none
  | x :: t => if x = c then some ([], t) else match cutN c t with
    | some (a, b) => some (x :: a, b)
    | none => none
def wg (p : Nat → Bool) (cur : List Nat) : List Nat → List (List Nat)
  | [] => if cur = [] then [] else [cur]
  | x :: t => if p x then (if cur = [] then wg p [] t else cur :: wg p [] t) else wg p (cur ++ [x]) t
theorem wg_append (p : Nat → Bool) : ∀ (u cur l : List Nat), (∀ x ∈ u, p x = false) → wg p cur (u ++ l) = wg p (cur ++ u) l
  | [], cur, l, _ => by simp
  | x :: u, cur, l, h => by
    show wg p cur (x :: (u ++ l)) = _
    rw [wg, h x List.mem_cons_self]
    simp only [Bool.false_eq_true, if_false]
    rw [wg_append p u _ l fun y hy => h y (List.mem_cons_of_mem _ hy)]
    simp

theorem toNat_eq {a b : UInt8} : a.toNat = b.toNat ↔ a = b := UInt8.toNat_inj
theorem ixN_ok (c : UInt8) : ∀ l : List UInt8, Lib.indexByte l c = ixN c.toNat (l.map UInt8.toNat)
  | [] => rfl
  | b :: l => by
    rw [List.map_cons, Lib.indexByte, ixN, ← ixN_ok c l]
    by_cases h : b = c
    · subst h; simp
    · have hb : (b == c) = false := by simpa using h
      have hn : ¬ b.toNat = c.toNat := by rw [toNat_eq]; exact h
      rw [hb, if_neg hn]
      by_cases h2 : Lib.indexByte l c = -1
      · simp [h2]
      · simp [h2]
theorem index_cons (c x : UInt8) (t : List UInt8) : Lib.index (x :: t) [c] = if x = c then 0 else if Lib.index t [c] = -1 then -1 else Lib.index t [c] + 1 := by
  rw [Lib.index]
  by_cases h : x = c
  · subst h; simp [List.isPrefixOf]
  · have : ([c] : List UInt8).isPrefixOf (x :: t) = false := by simp [List.isPrefixOf, Ne.symm h]
    rw [this, if_neg h]; simp
theorem spl_ne (c : Nat) : ∀ l, spl c l ≠ []
  | [] => by simp [spl]
  | x :: t => by
    rw [spl]
    split
    · simp
    · split <;> simp
theorem splitK_miss (c : UInt8) (k : Nat) (l : List UInt8) (h : Lib.index l [c] = -1) : splitK [c] 0 k l = [l] := by
  cases k with
  | zero => rfl
  | succ k => unfold splitK; rw [if_pos (by simpa using h)]
theorem splitK_hit (c : UInt8) (k i : Nat) (l : List UInt8) (h : Lib.index l [c] = i) : splitK [c] 0 (k + 1) l = l.take i :: splitK [c] 0 k (l.drop (i + 1)) := by
  have hm : ¬ (Lib.index l [c] == -1) = true := fun e => by have := beq_iff_eq.1 e; omega
  rw [splitK, if_neg hm, h]
  simp
theorem splitK_ok (c : UInt8) : ∀ l : List UInt8, (splitK [c] 0 (Lib.count l [c]) l).map (·.map UInt8.toNat) = spl c.toNat (l.map UInt8.toNat)
  | [] => by
    have h : Lib.index ([] : List UInt8) [c] = -1 := rfl
    rw [splitK_miss c _ _ h]; rfl
  | x :: t => by
    have ih := splitK_ok c t
    have hne : ([c] : List UInt8) ≠ [] := by simp
    rw [List.map_cons, spl]
    by_cases hx : x = c
    · have h0 : Lib.index (x :: t) [c] = ((0 : Nat) : Int) := by rw [index_cons, if_pos hx]; rfl
      rw [if_pos (by rw [toNat_eq]; exact hx), count_hit hne h0, Nat.add_comm 1, splitK_hit c _ 0 _ h0]
      simpa using ih
    · rw [if_neg (by rw [toNat_eq]; exact hx), ← ih]
      rcases index_spec t [c] with ⟨h1, -⟩ | ⟨i, h1, -, -, -⟩
      · have h0 : Lib.index (x :: t) [c] = -1 := by rw [index_cons, if_neg hx, if_pos h1]
        rw [splitK_miss c _ _ h0, splitK_miss c _ _ h1]; rfl
      · have h0 : Lib.index (x :: t) [c] = ((i + 1 : Nat) : Int) := by rw [index_cons, if_neg hx, if_neg (by omega), h1]; simp
        rw [count_hit hne h0, count_hit hne h1, Nat.add_comm 1, Nat.add_comm 1, splitK_hit c _ _ _ h0, splitK_hit c _ _ _ h1]
        simp
theorem spl_ok (s sep : ByteArray) (c : UInt8) (hs : sep.data.toList = [c]) : (splitB sep 0 (countB s sep) s).map bytesOf = spl c.toNat (bytesOf s) := by
  have h1 := splitB_data sep 0 (countB s sep) s
  have h2 : countB s sep = Lib.count s.data.toList sep.data.toList := rfl
  have h3 := splitK_ok c s.data.toList
  rw [h2, hs] at h1
  unfold bytesOf
  rw [← h3, ← h1, List.map_map, h2, hs]
  rfl
theorem cutN_ok (c : UInt8) : ∀ l : List UInt8, cutN c.toNat (l.map UInt8.toNat) = if 0 ≤ Lib.index l [c] then some ((l.take (Lib.index l [c]).toNat).map UInt8.toNat, (l.drop ((Lib.index l [c]).toNat + 1)).map UInt8.toNat) else none
  | [] => rfl
  | x :: t => by
    rw [List.map_cons, cutN, cutN_ok c t, index_cons]
    by_cases hx : x = c
    · rw [if_pos (by rw [toNat_eq]; exact hx), if_pos hx]; simp
    · rw [if_neg (by rw [toNat_eq]; exact hx), if_neg hx]
      have hge := index_ge t [c]
      by_cases hi : Lib.index t [c] = -1
      · rw [if_pos hi, hi]; rfl
      · rw [if_neg hi, if_pos (by omega), if_pos (by omega)]
        obtain ⟨n, hn⟩ : ∃ n : Nat, Lib.index t [c] = n := ⟨(Lib.index t [c]).toNat, by omega⟩
        have e1 : (((n : Nat) : Int) + 1).toNat = n + 1 := by omega
        rw [hn, e1]
        simp

/-! words -/
def bytes (s : ByteArray) : List UInt8 := s.data.toList
theorem get!_eq (s : ByteArray) (i : Nat) (h : i < s.size) : s.get! i = s.data.toList[i]'(by simpa using h) := by
  show s.data[i]! = _
  rw [getElem!_pos s.data i (by simpa using h)]; simp
theorem decode_shape (s : ByteArray) (pos : Nat) (h : pos < s.size) : ((s.get! pos).toNat < 128 ∧ Utf8.decode s pos = ((s.get! pos).toNat, 1)) ∨
    (128 ≤ (Utf8.decode s pos).1 ∧ 1 ≤ (Utf8.decode s pos).2 ∧ pos + (Utf8.decode s pos).2 ≤ s.size ∧ ∀ j, j < (Utf8.decode s pos).2 → 128 ≤ (s.get! (pos + j)).toNat) := by
  rw [decode_at]
  have hc := decodeN_conts (s.size - pos) (s.get! pos).toNat (s.get! (pos + 1)).toNat (s.get! (pos + 2)).toNat (s.get! (pos + 3)).toNat
  have h1 := decodeN_ge1 (s.size - pos) (s.get! pos).toNat (s.get! (pos + 1)).toNat (s.get! (pos + 2)).toNat (s.get! (pos + 3)).toNat
  have h2 := decodeN_le_n' (s.size - pos) (s.get! pos).toNat (s.get! (pos + 1)).toNat (s.get! (pos + 2)).toNat (s.get! (pos + 3)).toNat (by omega)
  by_cases h0 : (s.get! pos).toNat < 128
  · left
    refine ⟨h0, ?_⟩
    unfold decodeN; rw [if_pos h0]
  · right
    refine ⟨?_, h1, by omega, fun j hj => ?_⟩
    · unfold decodeN
      rw [if_neg h0]
      repeat' split
      all_goals (simp only; omega)
    · obtain ⟨k1, k2, k3, k4⟩ := hc
      match j, hj with
      | 0, hj => simp only [Nat.add_zero]; omega
      | 1, hj => have := k1 (by omega); omega
      | 2, hj => have := k2 (by omega); omega
      | 3, hj => have := k3 (by omega); omega
      | j + 4, hj => omega
def curOf (l : List UInt8) (pos : Nat) : Option Nat → List Nat
  | none => []
  | some a => ((l.drop a).take (pos - a)).map UInt8.toNat
theorem spans_ok (p : Nat → Bool) (hp : ∀ x, 128 ≤ x → p x = false) (s : ByteArray) : ∀ (f pos : Nat) (st : Option Nat) (acc : List (Nat × Nat)), s.size - pos ≤ f → pos ≤ s.size → (∀ a, st = some a → a < pos) →
    (closeSpans s (spansFromP p s f pos st acc)).map (fun x => bytesOf (s.extract x.1 x.2)) = acc.map (fun x => bytesOf (s.extract x.1 x.2)) ++ wg p (curOf s.data.toList pos st) ((s.data.toList.drop pos).map UInt8.toNat) := by
  intro f
  have hend : ∀ (f pos : Nat) (st : Option Nat) (acc : List (Nat × Nat)), ¬ pos < s.size → pos ≤ s.size → (∀ a, st = some a → a < pos) →
      (closeSpans s (spansFromP p s f pos st acc)).map (fun x => bytesOf (s.extract x.1 x.2)) = acc.map (fun x => bytesOf (s.extract x.1 x.2)) ++ wg p (curOf s.data.toList pos st) ((s.data.toList.drop pos).map UInt8.toNat) := by
    intro f pos st acc h hle hst
    rw [spansFromP_end p s f pos st acc h]
    have hpos : pos = s.size := by omega
    have hd : s.data.toList.drop pos = [] := by rw [List.drop_eq_nil_iff]; simp [hpos]
    rw [hd]
    cases st with
    | none => simp [closeSpans, curOf, wg]
    | some a =>
      have ha := hst a rfl
      have hne : curOf s.data.toList pos (some a) ≠ [] := by
        unfold curOf
        have : ((s.data.toList.drop a).take (pos - a)).length = pos - a := by simp; omega
        intro h0
        have := congrArg List.length h0
        simp at this; omega
      simp only [closeSpans, List.map_append, List.map_nil, List.map_cons, wg, if_neg hne]
      congr 2
      unfold bytesOf curOf
      rw [extract_data, hpos]
  induction f with
  | zero => intro pos st acc hf hle hst; exact hend 0 pos st acc (by omega) hle hst
  | succ f ih =>
    intro pos st acc hf hle hst
    by_cases h : pos < s.size
    · have hlen : pos < s.data.toList.length := by simpa using h
      have hb : s.get! pos = s.data.toList[pos] := get!_eq s pos h
      have hcat : ∀ w, pos + w ≤ s.size → (s.data.toList.drop pos).map UInt8.toNat = ((s.data.toList.drop pos).take w).map UInt8.toNat ++ (s.data.toList.drop (pos + w)).map UInt8.toNat := by
        intro w hw
        rw [← List.map_append]
        congr 1
        rw [← List.drop_drop, List.take_append_drop]
      have hcur : ∀ w a, a ≤ pos → pos + w ≤ s.size → ((s.data.toList.drop a).take (pos - a)).map UInt8.toNat ++ ((s.data.toList.drop pos).take w).map UInt8.toNat = ((s.data.toList.drop a).take (pos + w - a)).map UInt8.toNat := by
        intro w a ha hw
        rw [← List.map_append]
        congr 1
        have e1 : s.data.toList.drop pos = (s.data.toList.drop a).drop (pos - a) := by rw [List.drop_drop]; congr 1; omega
        rw [e1, ← List.take_add]
        congr 1; omega
      unfold spansFromP
      rw [if_pos h]
      have key : ∀ w, 1 ≤ w → pos + w ≤ s.size → (∀ x ∈ ((s.data.toList.drop pos).take w).map UInt8.toNat, p x = false) →
          (∀ (st' : Option Nat), (∀ a, st' = some a → a < pos + w) → curOf s.data.toList (pos + w) st' = curOf s.data.toList pos st ++ ((s.data.toList.drop pos).take w).map UInt8.toNat →
            (closeSpans s (spansFromP p s f (pos + w) st' acc)).map (fun x => bytesOf (s.extract x.1 x.2)) = acc.map (fun x => bytesOf (s.extract x.1 x.2)) ++ wg p (curOf s.data.toList pos st) ((s.data.toList.drop pos).map UInt8.toNat)) := by
        intro w h1 hw hall st' hst' hc
        rw [ih (pos + w) st' acc (by omega) hw hst', hcat w hw, wg_append p _ _ _ hall, hc]
      have plainly : ∀ w, 1 ≤ w → pos + w ≤ s.size → (∀ x ∈ ((s.data.toList.drop pos).take w).map UInt8.toNat, p x = false) →
          (closeSpans s (match st with
            | some a => spansFromP p s f (pos + w) (some a) acc
            | none => spansFromP p s f (pos + w) (some pos) acc)).map (fun x => bytesOf (s.extract x.1 x.2)) = acc.map (fun x => bytesOf (s.extract x.1 x.2)) ++ wg p (curOf s.data.toList pos st) ((s.data.toList.drop pos).map UInt8.toNat) := by
        intro w h1 hw hall
        cases st with
        | some a =>
          have ha := hst a rfl
          exact key w h1 hw hall (some a) (fun b hb => by injection hb with hb; omega) ((hcur w a (by omega) hw).symm)
        | none =>
          refine key w h1 hw hall (some pos) (fun b hb => by injection hb with hb; omega) ?_
          show ((s.data.toList.drop pos).take (pos + w - pos)).map UInt8.toNat = [] ++ ((s.data.toList.drop pos).take w).map UInt8.toNat
          rw [show pos + w - pos = w by omega]; rfl
      rcases decode_shape s pos h with ⟨h128, hd⟩ | ⟨hr, hw1, hw2, hall⟩
      · rw [hd]
        dsimp only
        have hone : ((s.data.toList.drop pos).take 1).map UInt8.toNat = [(s.get! pos).toNat] := by
          rw [List.drop_eq_getElem_cons hlen, hb]; simp
        by_cases hpx : p (s.get! pos).toNat = true
        · rw [if_pos hpx]
          have hsplit := hcat 1 (by omega)
          rw [hone] at hsplit
          cases st with
          | some a =>
            have ha := hst a rfl
            dsimp only
            rw [ih (pos + 1) none _ (by omega) (by omega) (fun b hb => by cases hb), hsplit, List.map_append]
            have hne : curOf s.data.toList pos (some a) ≠ [] := by
              unfold curOf
              intro h0
              have := congrArg List.length h0
              simp at this; omega
            rw [List.singleton_append, wg, if_pos hpx, if_neg hne]
            simp only [List.map_cons, List.map_nil, List.append_assoc, List.singleton_append]
            congr 2
            unfold bytesOf curOf
            rw [extract_data]
          | none =>
            dsimp only
            rw [ih (pos + 1) none _ (by omega) (by omega) (fun b hb => by cases hb), hsplit]
            rw [List.singleton_append, wg, if_pos hpx]
            simp [curOf]
        · rw [if_neg hpx]
          refine plainly 1 (Nat.le_refl _) (by omega) fun x hx => ?_
          rw [hone, List.mem_singleton] at hx
          rw [hx]; simpa using hpx
      · have hpf := hp _ hr
        rw [hpf]
        simp only [Bool.false_eq_true, if_false]
        refine plainly _ hw1 hw2 fun x hx => ?_
        obtain ⟨b, hb1, rfl⟩ := List.mem_map.1 hx
        obtain ⟨j, hj, rfl⟩ := List.getElem_of_mem hb1
        have hj2 : j < (Utf8.decode s pos).2 := by simp at hj; omega
        have := hall j hj2
        rw [get!_eq s (pos + j) (by omega)] at this
        apply hp
        simpa using this
    · exact hend (f + 1) pos st acc h hle hst
/-- The words of a text: whatever lies above 127 parts no words. -/
theorem words_ok (p : Nat → Bool) (hp : ∀ x, 128 ≤ x → p x = false) (s : ByteArray) : (goFieldsP p s).map bytesOf = wg p [] (bytesOf s) := by
  have := spans_ok p hp s s.size 0 none [] (by omega) (Nat.zero_le _) (fun a h => by cases h)
  unfold goFieldsP spansOfP
  rw [List.map_map]
  simpa [Function.comp_def, curOf, bytesOf] using this
end Go.KM
