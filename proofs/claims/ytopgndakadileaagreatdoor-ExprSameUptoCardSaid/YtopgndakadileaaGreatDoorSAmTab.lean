/- The tables that a seat's program leans on. -/
import Derived.Calls

namespace Go.Am
/-- They stand in the world: the word that internal/bytealg sets at the start. -/
def Tables (w : World) : Prop := ∃ m : Int, w.cell? ⟨1, 0, none⟩ = some (.int .i64 m)
/-- Blocks of a known length. -/
def tabSizes : List (Nat × Nat) := []
end Go.Am
