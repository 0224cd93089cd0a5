/- What stands at a place of the tape: the plain side; laws for the walk of journal.whole. -/
import Derived.Test.YtlllocfcljgacaaJour8
import Derived.Laws.Bits128
import Derived.IntWalk
namespace Go.Proofs.Ytlllocfcljgacaa
open Go.RowKit
set_option linter.unusedVariables false
set_option linter.unusedSimpArgs false

theorem or_i64 (a b : Nat) (ha : a < 4611686018427387904) (hb : b < 4611686018427387904) : bits .or .i64 (a : Int) (b : Int) = ((a ||| b : Nat) : Int) := by
  have hx : a ||| b < 2 ^ 62 := Nat.or_lt_two_pow (by omega) (by omega)
  have h1 : (BitVec.ofInt 64 (a : Int)).toNat = a := by
    rw [BitVec.ofInt_natCast, BitVec.toNat_ofNat]; exact Nat.mod_eq_of_lt (by omega)
  have h2 : (BitVec.ofInt 64 (b : Int)).toNat = b := by
    rw [BitVec.ofInt_natCast, BitVec.toNat_ofNat]; exact Nat.mod_eq_of_lt (by omega)
  show IntKind.i64.wrap ((BitVec.ofInt 64 (a : Int) ||| BitVec.ofInt 64 (b : Int)).toNat : Int) = _
  rw [BitVec.toNat_or, h1, h2, IntKind.wrap_i64]
  omega
theorem or_up (a x k : Nat) (ha : a < 2 ^ k) (hx : x * 2 ^ k < 4611686018427387904) (hk : k ≤ 60 := by omega) : bits .or .i64 (a : Int) ((x * 2 ^ k : Nat) : Int) = ((a + x * 2 ^ k : Nat) : Int) := by
  have h60 : 2 ^ k ≤ 2 ^ 60 := Nat.pow_le_pow_right (by omega) hk
  rw [or_i64 a (x * 2 ^ k) (by omega) hx, Nat.or_comm, ← Nat.shiftLeft_eq, ← Nat.shiftLeft_add_eq_or_of_lt ha, Nat.add_comm]
theorem or_low (a x k : Nat) (ha : a < 2 ^ k) (hx : x * 2 ^ k < 4611686018427387904) (hk : k ≤ 60 := by omega) : bits .or .i64 ((x * 2 ^ k : Nat) : Int) (a : Int) = ((x * 2 ^ k + a : Nat) : Int) := by
  have h60 : 2 ^ k ≤ 2 ^ 60 := Nat.pow_le_pow_right (by omega) hk
  rw [or_i64 (x * 2 ^ k) a hx (by omega), ← Nat.shiftLeft_eq, ← Nat.shiftLeft_add_eq_or_of_lt ha]

theorem or4 (y0 y1 y2 y3 : Int) (e0 : 0 ≤ y0 ∧ y0 ≤ 255) (e1 : 0 ≤ y1 ∧ y1 ≤ 255) (e2 : 0 ≤ y2 ∧ y2 ≤ 255) (e3 : 0 ≤ y3 ∧ y3 ≤ 255) :
    bits .or .i64 (bits .or .i64 (bits .or .i64 (y0 * 16777216) (y1 * 65536)) (y2 * 256)) y3 = y0 * 16777216 + y1 * 65536 + y2 * 256 + y3 := by
  obtain ⟨a, rfl⟩ := Int.eq_ofNat_of_zero_le e0.1
  obtain ⟨b, rfl⟩ := Int.eq_ofNat_of_zero_le e1.1
  obtain ⟨c, rfl⟩ := Int.eq_ofNat_of_zero_le e2.1
  obtain ⟨d, rfl⟩ := Int.eq_ofNat_of_zero_le e3.1
  have h1 := or_low (b * 65536) a 24 (by omega) (by omega)
  have h2 := or_low (c * 256) (a * 256 + b) 16 (by omega) (by omega)
  have h3 := or_low d (a * 65536 + b * 256 + c) 8 (by omega) (by omega)
  rw [show ((a : Int) * 16777216) = ((a * 2 ^ 24 : Nat) : Int) by omega, show ((b : Int) * 65536) = ((b * 65536 : Nat) : Int) by omega, h1,
    show ((a * 2 ^ 24 + b * 65536 : Nat) : Int) = (((a * 256 + b) * 2 ^ 16 : Nat) : Int) by omega, show ((c : Int) * 256) = ((c * 256 : Nat) : Int) by omega, h2,
    show (((a * 256 + b) * 2 ^ 16 + c * 256 : Nat) : Int) = (((a * 65536 + b * 256 + c) * 2 ^ 8 : Nat) : Int) by omega, h3]
  omega

def grp (k acc : Nat) : List Int → Option (Nat × Nat)
  | [] => none
  | c :: D => if 2 < k then none else if c < 128 then (if c = 0 ∧ 0 < k then none else some (acc + c.toNat * 128 ^ k, k + 1)) else grp (k + 1) (acc + (c.toNat - 128) * 128 ^ k) D
/-- the record that bytes begin with, and how many bytes it has -/
def wholeB (D : List Int) : Option (List Int × Nat) :=
  match grp 0 0 D with
  | none => none
  | some (n, k) => if 1048576 < n ∨ D.length < k + 4 + n then none else
      if (D.drop k).take 4 = tailB ((D.drop (k + 4)).take n) then some ((D.drop (k + 4)).take n, k + 4 + n) else none

theorem whole_on {D : List Int} {m k : Nat} (h : grp 0 0 D = some (m, k)) (hb : ¬ (1048576 < m ∨ D.length < k + 4 + m)) :
    wholeB D = if (D.drop k).take 4 = tailB ((D.drop (k + 4)).take m) then some ((D.drop (k + 4)).take m, k + 4 + m) else none := by rw [wholeB, h]; simp only; rw [if_neg hb]
theorem tail_iff (y0 y1 y2 y3 : Int) (e0 : 0 ≤ y0 ∧ y0 ≤ 255) (e1 : 0 ≤ y1 ∧ y1 ≤ 255) (e2 : 0 ≤ y2 ∧ y2 ≤ 255) (e3 : 0 ≤ y3 ∧ y3 ≤ 255) {R : List Int} :
    ([y0, y1, y2, y3] = tailB R) = (y0 * 16777216 + y1 * 65536 + y2 * 256 + y3 = sumB R) := by
  have h := sumB_in R
  simp only [tailB, List.cons.injEq, and_true]
  refine propext ⟨?_, ?_⟩
  · rintro ⟨h1, h2, h3, h4⟩
    omega
  · intro h1
    omega
theorem bys_cut (X : List Int) (a b : Nat) : bys ((X.drop a).take b) = ((bys X).drop (a * 1)).take (b * 1) := by
  rw [bys_map, bys_map, Nat.mul_one, Nat.mul_one, List.map_take, List.map_drop]
theorem whole_none {D : List Int} (h : grp 0 0 D = none) : wholeB D = none := by rw [wholeB, h]
theorem whole_off {D : List Int} {m k : Nat} (h : grp 0 0 D = some (m, k)) (hb : 1048576 < m ∨ D.length < k + 4 + m) : wholeB D = none := by rw [wholeB, h]; simp only; rw [if_pos hb]
theorem take4 (X : List Int) (q : Nat) (h : q + 3 < X.length) : (X.drop q).take 4 = [X[q], X[q + 1], X[q + 2], X[q + 3]] := by
  rw [List.drop_eq_getElem_cons (by omega), List.drop_eq_getElem_cons (i := q + 1) (by omega), List.drop_eq_getElem_cons (i := q + 1 + 1) (by omega), List.drop_eq_getElem_cons (i := q + 1 + 1 + 1) (by omega)]
  rfl
theorem add_succ (ad : Addr) (k : Nat) : ad.add (k + 1) = ⟨ad.block, ad.off + (k + 1), none⟩ := by unfold Addr.add; simp

/-- what 'whole' answers at p -/
def WholePost (w : World) (B p : Nat) (o : Option (List Int × Nat)) (e : Ending) : Prop :=
  match o with
  | some (r, m) => ∃ u, e = .returned (.tuple #[.int .i64 (p + m : Nat), u, .bool true]) ∧ Sl w B u 1 r.length (bys r)
  | none => ∃ x u, e = .returned (.tuple #[x, u, .bool false])
theorem whole_post {w : World} {B p M : Nat} {S T z : Int} {R : List Int} {u : Value} (j : Nat) (hz : z = (p + M : Nat)) (hs : Sl w B u 1 R.length (bys R)) :
    (∃ j', w.drewN j = w.drewN j') ∧ WholePost w B p (if S = T then some (R, M) else none) (.returned (.tuple #[.int .i64 z, u, .bool (S == T)])) := by
  refine ⟨⟨j, rfl⟩, ?_⟩
  subst hz
  by_cases h : S = T
  · rw [if_pos h, show (S == T) = true by simpa using h]
    exact ⟨u, rfl, hs⟩
  · rw [if_neg h, show (S == T) = false by simpa using h]
    exact ⟨_, _, rfl⟩
theorem none_post (w : World) (B p : Nat) (x u : Value) (j : Nat) : (∃ j', w.drewN j = w.drewN j') ∧ WholePost w B p none (.returned (.tuple #[x, u, .bool false])) := ⟨⟨j, rfl⟩, x, u, rfl⟩

section
variable {P : Program} {a : Act} {w : World} {Q : Exit → Act → World → Prop}
/-- a label ahead of a loop made by goto -/
theorem wp_scope_top {pre rest : Code} (l : Nat) (J : Act → World → Prop) (μ : Act → World → Nat) (hn : findLabel pre l = none) (hpre : pre.wp P (fun e a w => e = .normal ∧ J a w) a w)
    (pass : ∀ a w, J a w → rest.wp P (Exit.jump l (fun a' w' => J a' w' ∧ μ a' w' < μ a w) Q) a w) : (Code.scope (pre.seq ((Code.label l).seq rest))).wp P Q a w := by
  have hp2 : ∀ a w, J a w → rest.wp P (Exit.jump l J Q) a w := fun a w h => Code.wp_mono (fun e a' w' hq => by
    cases e with
    | goto l' => exact ⟨hq.1, hq.2.1⟩
    | _ => exact hq) (pass a w h)
  refine wp_scope_jumps (rest := Code.skip.seq rest) l J μ (by simp [findLabel, hn]) ?_ (fun a w h => wp_seq (wp_skip (pass a w h)))
  refine wp_seq (Code.wp_mono (fun e a' w' hq => ?_) hpre)
  obtain ⟨rfl, hJ⟩ := hq
  exact wp_seq (wp_label (hp2 _ _ hJ))
end


end Go.Proofs.Ytlllocfcljgacaa
