/-
  A region that draws its order and only reads: behind the draw the world is a letter.
-/
import Derived.Test.YtppgeljlmckimaaDoorKit
import Derived.StillTactics
namespace Go.Proofs.YtppgeljlmckimaaDoor
theorem region_still {P : Program} {w : World} {id : Nat} {Q : Exit → Act → World → Prop} {a : Act} {l : List Oper} (hm : P.follows .mixedOrders = true) (hB : Region.lexB .any l.toArray = true)
    (h : ∀ w2, Touch [] w w2 → wpStill P l.toArray w2 (fun a' => Q .normal a' w2) l a) : (Code.region id l.toArray true).wp P Q a w :=
  wp_region_still_lit hm hB (h _ ((Touch.refl [] w).drew))
end Go.Proofs.YtppgeljlmckimaaDoor
