/- Timers' names as keys of a map. -/
import Derived.Test.YtogelnljkdcajaaMap
import Derived.Test.YtogelnljkdcajaaCmp
import Derived.WalkSpells
import Derived.WalkLawsBesides
namespace Go.Proofs.Ytogelnljkdcajaa
open Go.RowKit
set_option linter.unusedVariables false
set_option linter.unusedSimpArgs false

structure Nm where
  s : ByteArray
  f : Int
  t : Int
  w : Int
deriving DecidableEq
def nmV (n : Nm) : Value := .agg #[.string n.s, .int .i64 n.f, .int .i64 n.t, .int .i64 n.w]
abbrev nmT : Nat := 83
theorem nm_eq (a b : Nm) (w : World) : (Op.equal nmT (nmV a) (nmV b)).run Try.prog w = .ok (decide (a = b)) w := by
  show (Op.equalIn 10000 nmT _ _).run _ w = _
  unfold nmV
  go_simp
  obtain ⟨s, f, t, x⟩ := a
  obtain ⟨s', f', t', x'⟩ := b
  simp only
  have hl : s.toList = s'.toList ↔ s = s' := ⟨fun h => ByteArray.ext (Array.toList_inj.1 (by rw [← ByteArray.toList_eq, ← ByteArray.toList_eq]; exact h)), fun h => by rw [h]⟩
  by_cases h1 : s = s'
  · by_cases h2 : f = f'
    · by_cases h3 : t = t'
      · by_cases h4 : x = x'
        · simp [h1, h2, h3, h4]
        · simp [h1, h2, h3, h4]
      · simp [h1, h2, h3]
    · simp [h1, h2]
  · rw [if_neg (fun h => h1 (hl.1 h))]
    simp [h1]
theorem nm_chk (e : Bool) (a : Nm) (w : World) : (Instr.checkKey e 10000 nmT (nmV a)).run Try.prog w = .ok () w := by
  obtain ⟨s, f, t, x⟩ := a
  cases e <;> kernel_rfl
theorem nm_bits (a : Nm) : Instr.sameBits 10000 (nmV a) (nmV a) = true := by
  have : Instr.sameBits 10000 (nmV a) (nmV a) = ((a.s == a.s) && (((IntKind.i64 == IntKind.i64) && (a.f == a.f)) && (((IntKind.i64 == IntKind.i64) && (a.t == a.t)) && (((IntKind.i64 == IntKind.i64) && (a.w == a.w)) && true)))) := by kernel_rfl
  rw [this, beq_toListBytes]
  simp

theorem nmW : KeyW Try.prog nmT nmV := ⟨⟨_, Try.underlying83⟩, nm_eq, nm_chk, nm_bits⟩
abbrev placeT : Nat := 66
theorem placeU : Try.prog.underlying placeT = some (.map nmT 3) := by kernel_rfl
theorem zeroInt (w : World) : (zeroValue 3).run Try.prog w = .ok (.int .i64 0) w := by kernel_rfl
def intV (n : Int) : Value := .int .i64 n

end Go.Proofs.Ytogelnljkdcajaa
