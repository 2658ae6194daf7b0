/- Small lemmas on worlds, for the walks of this seat. -/
import Derived.Test.YtcdphilgnlcahaaProg
import Derived.WalkKit
import Derived.KernelRfl
namespace Go.Proofs.Ytcdphilgnlcahaa
open Go.RowKit

theorem hide {p : Prop} (h : p) : Hid p := h

theorem cell_one_new (w : World) (x : Value) (t : TypeId) : ∀ j u, [x][j]? = some u → (w.alloc (.cells #[x] t)).cell? ((⟨w.heap.size, 0, none⟩ : Addr).add j) = some u := by
  intro j u hj
  match j, hj with
  | 0, hj => simp at hj; subst hj; simp [Addr.add]

theorem one_cell (x : Value) (h : x.oneCell' = true) : ∀ u ∈ [x], u.oneCell' = true := by
  intro u hu; simp at hu; subst hu; exact h

end Go.Proofs.Ytcdphilgnlcahaa
