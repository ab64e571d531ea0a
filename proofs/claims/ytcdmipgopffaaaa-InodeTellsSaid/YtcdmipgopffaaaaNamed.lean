/- A drawn region is entered; the world behind the draw has a name. -/
import Derived.Test.YtcdmipgopffaaaaLin2
namespace Go.Proofs.Ytcdmipgopffaaaa
open Go.RowKit
theorem region_namedH {P : Program} {ops : Array Oper} {Q : Exit → Act → World → Prop} {S : World → Prop} {id : Nat} {a : Act} {w : World} (hm : P.follows .mixedOrders = true)
    (h : ∀ W2, Hid (W2 = w.drew) → S W2 ∧ (S W2 → wpAnyH P .any ops Q S ops.size (Array.replicate ops.size false) a W2)) : (Code.region id ops true).wp P Q a w :=
  wp_region_held_drew hm (h _ (Lib.hid rfl)).1 (h _ (Lib.hid rfl)).2
end Go.Proofs.Ytcdmipgopffaaaa
