/- How the arguments of the laws of layer 15 read. -/
import Derived.Test.YtkobaidamdffmaaOn15
import Derived.Test.YtkobaidamdffmaaOpen2
namespace Go.Proofs.Ytkobaidamdffmaa
open Go.RowKit Go.ChangeShapes Go.WideShapes Go.Deep
set_option linter.unusedVariables false
set_option linter.unusedSimpArgs false

theorem sum_ones {α : Type} (l : List α) : (l.map fun _ => 1).sum = l.length := by
  induction l with
  | nil => rfl
  | cons x l ih => rw [List.map_cons, List.sum_cons, ih, List.length_cons]; omega
section
variable {H : Type} (enc : TypeId × Value → H) (w : World)
theorem rd2_bytes : Reads2 enc Try.prog w 23 (fun r : Value × List Int => [r.1]) (fun r => Sl w w.heap.size r.1 1 r.2.length (bys r.2) ∧ r.2.length ≤ 140737488351232 ∧ Bytes8 r.2) (fun r => r.2.length + 1) :=
  Reads2.map (Q := fun s : Value × List Int => Sl w w.heap.size s.1 1 s.2.length (s.2.flatMap fun n : Int => [Value.int .u8 n]) ∧ s.2.length * 1 ≤ 140737488351232 ∧ ∀ a ∈ s.2, (Lit.int .u8 a).wf = true) (m := fun s => (s.2.map fun _ => 1).sum + 1)
    (reads2_slice (sz := 1) (by_ := 1) (E := fun n : Int => [.int .u8 n]) Try.underlying23 (by kernel_rfl) (by kernel_rfl) (fun _ => rfl) (by omega) (reads2_int (by kernel_rfl))) id (fun _ => rfl)
    (fun s h => ⟨h.1, by have := h.2.1; show s.2.length ≤ _; omega, fun c hc => by
      have h9 := h.2.2 c hc
      simpa [Lit.wf, IntKind.min, IntKind.max, IntKind.signed, IntKind.bits] using h9⟩) (fun s => by rw [sum_ones]; exact Nat.le_refl _)
theorem rd2_win : Reads2 enc Try.prog w 25 Win.cells (fun _ => True) (fun _ => 1) :=
  (reads2_struct Try.underlying25 (by kernel_rfl)
    (reads2_f1 (reads2_int Try.underlying3) rfl (by kernel_rfl) (reads2_f1 (reads2_int Try.underlying3) rfl (by kernel_rfl) (reads2_fnil _)))).map
    (fun p => ⟨p.1, p.2.1⟩) (fun _ => rfl) (fun _ _ => trivial) (fun _ => by omega)
/-- a state, as five plain values -/
structure St5 where
  n : Int
  g : Int
  h : Int
  p : Bool
  c : Bool
def St5.cells (x : St5) : List Value := [.int .i64 x.n, .int .i64 x.g, .int .i64 x.h, .bool x.p, .bool x.c]
theorem rd2_st : Reads2 enc Try.prog w 27 St5.cells (fun _ => True) (fun _ => 1) :=
  (reads2_struct Try.underlying27 (by kernel_rfl)
    (reads2_f1 (reads2_int Try.underlying3) rfl (by kernel_rfl) (reads2_f1 (reads2_int Try.underlying3) rfl (by kernel_rfl) (reads2_f1 (reads2_int Try.underlying3) rfl (by kernel_rfl)
      (reads2_f1 (reads2_bool Try.underlying4) rfl (by kernel_rfl) (reads2_f1 (reads2_bool Try.underlying4) rfl (by kernel_rfl) (reads2_fnil _))))))).map
    (fun p => ⟨p.1, p.2.1, p.2.2.1, p.2.2.2.1, p.2.2.2.2.1⟩) (fun _ => rfl) (fun _ _ => trivial) (fun _ => by omega)
theorem rd2_rc : Reads2 enc Try.prog w 29 RC.cells (RCQ w) (fun x => x.kb.length + x.d.b.length + 1) :=
  (reads2_struct Try.underlying29 (by kernel_rfl)
    (reads2_f1 (rd2_bytes enc w) rfl (by kernel_rfl) (reads2_fcons (n := 2) (rd2_win enc w) rfl (by kernel_rfl) (reads2_f1 (rd2_bytes enc w) rfl (by kernel_rfl) (reads2_f1 (reads2_int Try.underlying3) rfl (by kernel_rfl) (reads2_fcons (n := 5) (rd2_st enc w) rfl (by kernel_rfl) (reads2_fnil _))))))).map
    (fun p => ⟨p.1.1, p.1.2, p.2.1.f, p.2.1.t, p.2.2.1.1, ⟨p.2.2.1.2, p.2.2.2.1, p.2.2.2.2.1.n, p.2.2.2.2.1.g, p.2.2.2.2.1.h, p.2.2.2.2.1.p, p.2.2.2.2.1.c⟩⟩) (fun _ => rfl)
    (fun _ h => ⟨h.1.1, Nat.le_trans h.1.2.1 (by decide), h.1.2.2, h.2.2.1.1, Nat.le_trans h.2.2.1.2.1 (by decide), h.2.2.1.2.2⟩) (fun p => by show p.1.2.length + p.2.2.1.2.length + 1 ≤ _; omega)
theorem rd2_rcs : Reads2 enc Try.prog w 22 (fun s : Value × List RC => [s.1]) (fun s => Sl w w.heap.size s.1 10 s.2.length (rcs s.2) ∧ s.2.length * 104 ≤ 140737488351232 ∧ ∀ x ∈ s.2, RCQ w x) (fun s => (s.2.map fun x => x.kb.length + x.d.b.length + 1).sum + 1) :=
  (reads2_slice (E := RC.cells) Try.underlying22 (by kernel_rfl) (by kernel_rfl) (fun _ => rfl) (by omega) (rd2_rc enc w)).map id (fun _ => rfl) (fun _ h => h) (fun s => Nat.le_refl _)
/-- an op -/
structure Op15 where
  k : Int
  x : RC
def Op15.cells (o : Op15) : List Value := .int .i64 o.k :: o.x.cells
theorem rd2_op : Reads2 enc Try.prog w 31 Op15.cells (fun o => RCQ w o.x) (fun o => o.x.kb.length + o.x.d.b.length + 1) :=
  (reads2_struct Try.underlying31 (by kernel_rfl)
    (reads2_f1 (reads2_int Try.underlying3) rfl (by kernel_rfl) (reads2_fcons (n := 10) (rd2_rc enc w) rfl (by kernel_rfl) (reads2_fnil _)))).map
    (fun p => ⟨p.1, p.2.1⟩) (fun p => by show _ = Value.int .i64 p.1 :: p.2.1.cells; simp [RC.cells]) (fun _ h => h.2.1) (fun p => by show p.2.1.kb.length + p.2.1.d.b.length + 1 ≤ _; omega)
end

end Go.Proofs.Ytkobaidamdffmaa
