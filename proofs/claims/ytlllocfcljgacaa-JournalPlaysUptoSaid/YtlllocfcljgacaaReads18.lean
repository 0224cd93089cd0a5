/- How the arguments of JournalRoom read. -/
import Derived.Test.YtlllocfcljgacaaLaw18b
import Derived.Test.YtlllocfcljgacaaOpen2
namespace Go.Proofs.Ytlllocfcljgacaa
open Go.RowKit Go.ChangeShapes Go.WideShapes Go.Deep
set_option linter.unusedVariables false
set_option linter.unusedSimpArgs false

/-- bytes as an argument -/
def BytesQ (w : World) (r : Rec) : Prop := Sl w w.heap.size r.1 1 r.2.length (bys r.2) ∧ r.2.length ≤ 140737488351232 ∧ Bytes8 r.2
/-- records as an argument -/
def RecsQ (w : World) (z : Value × List Rec) : Prop := Recs w w.heap.size z.1 z.2 ∧ z.2.length ≤ 5864062014634 ∧ ∀ r ∈ z.2, r.2.length ≤ 140737488351232 ∧ Bytes8 r.2
section
variable {H : Type} (enc : TypeId × Value → H) (w : World)
theorem ones_sum (D : List Int) : (D.map fun _ => 1).sum = D.length := by
  induction D with
  | nil => rfl
  | cons c D ih => rw [List.map_cons, List.sum_cons, ih, List.length_cons]; omega
/-- a bulk of records -/
def bulkR (R : List Rec) : Nat := (R.map fun r => r.2.length + 1).sum
theorem rd2_bytes : Reads2 enc Try.prog w 23 (fun r : Rec => [r.1]) (BytesQ w) (fun r => r.2.length + 1) :=
  Reads2.map (Q := fun s : Value × List Int => Sl w w.heap.size s.1 1 s.2.length (s.2.flatMap fun n : Int => [Value.int .u8 n]) ∧ s.2.length * 1 ≤ 140737488351232 ∧ ∀ a ∈ s.2, (Lit.int .u8 a).wf = true) (m := fun s => (s.2.map fun _ => 1).sum + 1)
    (reads2_slice (sz := 1) (by_ := 1) (E := fun n : Int => [.int .u8 n]) Try.underlying23 (by kernel_rfl) (by kernel_rfl) (fun _ => rfl) (by omega) (reads2_int (by kernel_rfl))) id (fun _ => rfl)
    (fun s h => ⟨h.1, by have := h.2.1; show s.2.length ≤ _; omega, fun c hc => by
      have h9 := h.2.2 c hc
      simpa [Lit.wf, IntKind.min, IntKind.max, IntKind.signed, IntKind.bits] using h9⟩) (fun s => by rw [ones_sum]; exact Nat.le_refl _)
theorem rd2_recs : Reads2 enc Try.prog w 22 (fun s : Value × List Rec => [s.1]) (RecsQ w) (fun s => bulkR s.2 + 1) :=
  Reads2.map (Q := fun s : Value × List Rec => Sl w w.heap.size s.1 1 s.2.length (s.2.flatMap fun r : Rec => [r.1]) ∧ s.2.length * 24 ≤ 140737488351232 ∧ ∀ a ∈ s.2, BytesQ w a) (m := fun s => (s.2.map fun r => r.2.length + 1).sum + 1)
    (reads2_slice (sz := 1) (by_ := 24) (E := fun r : Rec => [r.1]) Try.underlying22 (by kernel_rfl) (by kernel_rfl) (fun _ => rfl) (by omega) (rd2_bytes enc w)) id (fun _ => rfl)
    (fun s h => ⟨⟨h.1, fun r hr => (h.2.2 r hr).1⟩, by have := h.2.1; show s.2.length ≤ _; omega, fun r hr => (h.2.2 r hr).2⟩) (fun s => Nat.le_refl _)
end

theorem room_walk (z : Value × List Rec) (w : World) (h : RecsQ w z) :
    Calls Try.prog 3 #[z.1] w fun e w' => e = .returned (.bool true) ∧ Below w.heap.size w w' := by
  by_cases hn : 100 < z.2.length
  · exact room_many z.1 z.2 _ w h.1 hn h.2.1 (fun r hr => (h.2.2 r hr).1)
  · by_cases hb : 262144 < totB z.2
    · exact room_big z.1 z.2 _ w h.1 (by omega) hb (fun r hr => (h.2.2 r hr).1)
    · exact room_ok z.1 z.2 _ w h.1 (by omega) (by omega) (fun r hr => (h.2.2 r hr).2) (Nat.le_refl _)

end Go.Proofs.Ytlllocfcljgacaa
