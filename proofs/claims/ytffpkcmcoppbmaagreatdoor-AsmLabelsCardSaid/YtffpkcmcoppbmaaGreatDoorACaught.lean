/-
  asm.caught: of nothing: nil; of a fault: that fault.
-/
import Derived.Test.YtffpkcmcoppbmaaGreatDoorAAs
import Derived.Below
import Derived.ProofKit
namespace Go.Proofs.YtffpkcmcoppbmaaGreatDoor.errorsAs
open Go.RowKit Go.Extern.Stop Go.Stop Go.Extern

theorem assertNil (w : World) : (Instr.typeAssert .nilIface 20 110 true).run Tryz.prog w = .ok (.tuple #[.nilIface, .bool false]) w := by kernel_rfl
theorem assertFault (v : Value) (w : World) : (Instr.typeAssert (.iface 62 v) 20 110 true).run Tryz.prog w = .ok (.tuple #[.iface 62 v, .bool true]) w :=
  run_typeAssert_hasB Tryz.underlying110 (by kernel_rfl) v 20 w
theorem caught_nil (w : World) : Calls Tryz.prog 22 #[.nilIface] w fun e w' => e = .returned (.pointer none) ∧ Below w.heap.size w w' := by
  have h1 := assertNil
  go_enter Tryz.func22, Tryz.ntmps22
  go_wp2
  go_ret
  exact ⟨rfl, (Below.refl _ _).alloc (Nat.le_refl _) _⟩
set_option maxHeartbeats 4000000 in
theorem caught_hit (e : Addr) (w : World) (hg : w.cell? ⟨0, 0, none⟩ = some (.iface 194 (.agg #[.pointer (some ⟨10, 110, none⟩)]))) :
    Calls Tryz.prog 22 #[.iface 62 (.pointer (some e))] w fun ev w' => ev = .returned (.pointer (some e)) ∧ Below w.heap.size w w' := by
  have hlt : 0 < w.heap.size := by
    rcases Nat.eq_zero_or_pos w.heap.size with h0 | h
    · simp [World.cell?, h0] at hg
    · exact h
  have hgA : (w.alloc (.cells #[.pointer none] 62)).cell? ⟨0, 0, none⟩ = some (.iface 194 (.agg #[.pointer (some ⟨10, 110, none⟩)])) := by
    rw [World.cell?_alloc_lt _ _ ⟨0, 0, none⟩ hlt]; exact hg
  have htA : (w.alloc (.cells #[.pointer none] 62)).cell? ⟨w.heap.size, 0, none⟩ = some (.pointer none) := by simp
  have hfA : (w.alloc (.cells #[.pointer none] 62)).frozen? ⟨w.heap.size, 0, none⟩ = false := by simp
  have h1 := assertFault
  go_enter Tryz.func22, Tryz.ntmps22
  go_wp2_with (go_at_call 47; refine (as_hit _ _ (.pointer none) _ hgA htA hfA).mono ?_; rintro ev w' ⟨rfl, rfl⟩)
  go_ret
  exact ⟨rfl, ((((((Below.refl _ _).alloc (Nat.le_refl _) _).alloc (by simp) _).alloc (by simp; omega) _).alloc (by simp; omega) _).alloc (by simp; omega) _)⟩
end Go.Proofs.YtffpkcmcoppbmaaGreatDoor.errorsAs
