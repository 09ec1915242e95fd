/- Blocks laid one after the other. -/
import Derived.Test.YtebigkjilklodaaDoorData
set_option linter.unusedVariables false
set_option linter.unusedSimpArgs false
namespace Go.Proofs.YtebigkjilklodaaDoor
open Go.RowKit

/-- Blocks laid one after the other. -/
def allocs (w : World) : List Obj → World
  | [] => w
  | o :: os => allocs (w.alloc o) os
theorem allocs_below : ∀ (os : List Obj) (w : World), Below w.heap.size w (allocs w os) := by
  intro os
  induction os with
  | nil => intro w; exact Below.refl _ _
  | cons o os ih => intro w; exact ((Below.refl _ _).alloc (Nat.le_refl _) o).trans ((ih _).mono (by simp))
theorem allocs_size : ∀ (os : List Obj) (w : World), (allocs w os).heap.size = w.heap.size + os.length := by
  intro os
  induction os with
  | nil => intro w; rfl
  | cons o os ih => intro w; show (allocs (w.alloc o) os).heap.size = _; rw [ih, World.size_alloc, List.length_cons]; omega
theorem allocs_get : ∀ (os : List Obj) (w : World) (i : Nat) (o : Obj), os[i]? = some o → (allocs w os).heap[w.heap.size + i]? = some o := by
  intro os
  induction os with
  | nil => intro w i o h; simp at h
  | cons p os ih =>
    intro w i o h
    cases i with
    | zero =>
      rw [List.getElem?_cons_zero] at h
      obtain rfl := Option.some.inj h
      show (allocs (w.alloc p) os).heap[w.heap.size]? = _
      rw [(allocs_below os (w.alloc p)).block _ (by simp)]
      exact heap_alloc_new w p
    | succ i =>
      rw [List.getElem?_cons_succ] at h
      have := ih (w.alloc p) i o h
      rw [World.size_alloc] at this
      show (allocs (w.alloc p) os).heap[w.heap.size + (i + 1)]? = _
      rw [← this]
      congr 1
      omega

end Go.Proofs.YtebigkjilklodaaDoor
