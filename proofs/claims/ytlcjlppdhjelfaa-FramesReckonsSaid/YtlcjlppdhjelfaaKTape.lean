/-
  What leaves the tape as it is: a step over a map.
-/
import Derived.Laws.IdiomRangeMap
namespace Go.KM
open Go
/-- What leaves the tape as it is. -/
def TapeKept (P : Program) {α : Type} (s : Sem α) : Prop := ∀ w v w', s.run P w = .ok v w' → w'.tape = w.tape
theorem TapeKept.pure {P : Program} {α : Type} (a : α) : TapeKept P (Pure.pure a : Sem α) := fun w v w' h => by
  rw [Sem.run_pure] at h; injection h with h1 h2; rw [h2]
theorem TapeKept.bind {P : Program} {α β : Type} {s : Sem α} {k : α → Sem β} (hs : TapeKept P s) (hk : ∀ a, TapeKept P (k a)) : TapeKept P (s >>= k) := fun w v w' h => by
  rw [Sem.run_bind] at h
  cases hr : s.run P w with
  | ok a w1 => rw [hr] at h; exact (hk a w1 v w' h).trans (hs w a w1 hr)
  | halt x w1 => rw [hr] at h; cases h
theorem tape_getObj {P : Program} (r : Nat) : TapeKept P (getObj r) := fun w v w' h => by
  simp only [getObj, Sem.run] at h
  split at h <;> first | (injection h with h1 h2; rw [h2]) | cases h
theorem tape_setObj {P : Program} (r : Nat) (o : Obj) : TapeKept P (setObj r o) := fun w v w' h => by
  simp only [setObj, Sem.run] at h
  split at h <;> first | (injection h with h1 h2; rw [← h2]) | cases h
theorem tape_choose {P : Program} (q : Question) : TapeKept P (choose q) := fun w v w' h => by
  simp only [choose, Sem.run] at h
  split at h <;> (injection h with h1 h2; rw [← h2])
theorem tape_halt {P : Program} {α : Type} (x : Halt) : TapeKept P (Sem.halt x : Sem α) := fun w v w' h => by cases h
theorem tape_next {P : Program} (it : Value) (ty : TypeId) : TapeKept P (Instr.next it false ty) := by
  unfold Instr.next
  dsimp only
  split
  · refine (tape_getObj _).bind fun o => ?_
    split
    · split
      · exact (tape_setObj _ _).bind fun _ => .pure _
      · exact .pure _
    · exact .pure _
    · refine (tape_getObj _).bind fun o => ?_
      split
      · split
        · exact tape_halt _
        · refine (tape_choose _).bind fun i => ?_
          split
          · exact (tape_setObj _ _).bind fun _ => .pure _
          · exact .pure _
          · exact tape_halt _
      · exact tape_halt _
    · exact tape_halt _
  · exact tape_halt _
end Go.KM
