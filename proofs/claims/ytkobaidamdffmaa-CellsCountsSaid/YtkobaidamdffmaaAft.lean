/- A region that draws its order, reads, and calls what only makes memory: one walk, in the order of the text. -/
import Derived.Test.YtkobaidamdffmaaCut
import Derived.BigQuiet
namespace Go.Proofs.Ytkobaidamdffmaa
open Go.RowKit
set_option linter.unusedVariables false

/-- a world behind w: what w has stands as it was -/
structure Aft (w : World) where
  w' : World
  h : Below w.heap.size w w'
instance (w : World) : Nonempty (Aft w) := ⟨⟨w, Below.refl _ _⟩⟩

section
variable {P : Program} {id : Nat} {Q : Exit → Act → World → Prop} {a : Act} {w : World} {l : List Oper}
theorem wp_region_aft (hm : P.follows .mixedOrders = true) (hB : Region.lexB .any l.toArray = true)
    (h : wpQuiet P l.toArray (fun w' => ∃ p : Aft w, w' = p.w') (fun a' => ∀ w', Below w.heap.size w w' → Q .normal a' w') l a) : (Code.region id l.toArray true).wp P Q a w := by
  have e : (fun a' => ∀ w', (∃ p : Aft w, w' = p.w') → Q .normal a' w') = (fun a' => ∀ w', Below w.heap.size w w' → Q .normal a' w') :=
    funext fun a' => propext ⟨fun h w' hb => h w' ⟨⟨w', hb⟩, rfl⟩, fun h w' ⟨p, hp⟩ => h w' (by rw [hp]; exact p.h)⟩
  refine wp_region_quiet (C := fun w' => ∃ p : Aft w, w' = p.w') hm hB ⟨⟨_, (Below.refl _ _).drewN 1⟩, rfl⟩ ?_
  rw [e]
  simpa using h
theorem calls_aft {f : FuncId} {args : Array Value} {p : Aft w} {v : Value} (h : Calls P f args p.w' fun e w' => e = .returned v ∧ Below p.w'.heap.size p.w' w') :
    Calls P f args p.w' fun e w'' => e = .returned v ∧ ∃ q : Aft w, w'' = q.w' :=
  h.mono fun _ w' ⟨he, hb⟩ => ⟨he, ⟨w', p.h.trans (hb.mono p.h.size)⟩, rfl⟩
theorem calls_aft_same {f : FuncId} {args : Array Value} {p : Aft w} {v : Value} (h : Calls P f args p.w' fun e w' => e = .returned v ∧ w' = p.w') :
    Calls P f args p.w' fun e w'' => e = .returned v ∧ ∃ q : Aft w, w'' = q.w' :=
  h.mono fun _ w' ⟨he, hb⟩ => ⟨he, p, hb⟩
theorem Aft.cell {x : Addr} {v : Value} (h : w.cell? x = some v) (hb : x.block < w.heap.size) (p : Aft w) : p.w'.cell? x = some v := (p.h.cell hb).trans h
theorem Aft.size (p : Aft w) : w.heap.size ≤ p.w'.heap.size := p.h.size
end

end Go.Proofs.Ytkobaidamdffmaa
