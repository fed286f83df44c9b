import Derived.Test.YthnfbjjnabohoaaMem
import Derived.Deep.Quiet
namespace Go.Proofs.Ythnfbjjnabohoaa
open Go.RowKit
/-! Regions that draw their order and whose operations read or call functions that only make memory: one walk, in the text's order. -/
/-- The worlds that have grown out of w. -/
def GW (w : World) := { w' : World // Below w.heap.size w w' }
instance (w : World) : Nonempty (GW w) := ⟨⟨w, Below.refl _ _⟩⟩
def gw {w : World} (n : GW w) : World := n.1
theorem gw_below {w : World} (n : GW w) : Below w.heap.size w (gw n) := n.2
theorem gw_cell {w : World} {p : Addr} {v : Value} (h : w.cell? p = some v) (hp : p.block < w.heap.size) : ∀ n : GW w, (gw n).cell? p = some v := fun n => ((gw_below n).cell hp).trans h
theorem wp_region_grow {P : Program} {id : Nat} {Q : Exit → Act → World → Prop} {a : Act} {w : World} {l : List Oper} (hm : P.follows .mixedOrders = true) (hB : Region.lexB .any l.toArray = true)
    (h : wpQuiet P l.toArray (fun w' => ∃ n : GW w, w' = gw n) (fun a' => ∀ w', (∃ n : GW w, w' = gw n) → Q .normal a' w') l a) : (Code.region id l.toArray true).wp P Q a w :=
  wp_region_quiet (C := fun w' => ∃ n : GW w, w' = gw n) hm hB ⟨⟨{ w with drawn := w.drawn + 1 }, ⟨rfl, rfl, rfl, Nat.le_refl _, fun _ _ => rfl⟩⟩, rfl⟩ (by simpa using h)
theorem grow_call {P : Program} {f : FuncId} {args : Array Value} {w : World} {n : GW w} {v : Value}
    (h : Calls P f args (gw n) fun e w'' => e = .returned v ∧ Below (gw n).heap.size (gw n) w'') : Calls P f args (gw n) fun e w'' => e = .returned v ∧ ∃ m : GW w, w'' = gw m :=
  h.mono fun _ w'' ⟨he, hb⟩ => ⟨he, ⟨w'', (gw_below n).trans (hb.mono (gw_below n).size)⟩, rfl⟩
theorem grow_same {P : Program} {f : FuncId} {args : Array Value} {w : World} {n : GW w} {v : Value}
    (h : Calls P f args (gw n) fun e w'' => e = .returned v ∧ gw n = w'') : Calls P f args (gw n) fun e w'' => e = .returned v ∧ ∃ m : GW w, w'' = gw m :=
  h.mono fun _ w'' ⟨he, hb⟩ => ⟨he, n, hb.symm⟩
theorem grow_drew {P : Program} {f : FuncId} {args : Array Value} {w : World} {n : GW w} {v : Value}
    (h : Calls P f args (gw n) fun e w'' => e = .returned v ∧ Drew (gw n) w'') : Calls P f args (gw n) fun e w'' => e = .returned v ∧ ∃ m : GW w, w'' = gw m :=
  grow_call (h.mono fun _ _ ⟨he, hd⟩ => ⟨he, hd.below _⟩)
end Go.Proofs.Ythnfbjjnabohoaa
