/- What the reference functions of layer 9 compute: Follows and Stage. -/
import Derived.Test.YtghkkekebjhjlaaProg
import Derived.Test.YtghkkekebjhjlaaLib
namespace Go.Proofs.Ytghkkekebjhjlaa
open Go.RowKit
set_option linter.unusedVariables false
set_option linter.unusedSimpArgs false

/-- a pane -/
structure Inf where
  i : Int
  t : Int
  l : Bool
def Inf.cells (p : Inf) : List Value := [.int .i64 p.i, .int .i64 p.t, .bool p.l]
def Inf.val (p : Inf) : Value := .agg #[.int .i64 p.i, .int .i64 p.t, .bool p.l]
theorem Inf.cells3 (p : Inf) : p.cells.length = 3 := rfl
def infs (D : List Inf) : List Value := D.flatMap Inf.cells
theorem infs_len (D : List Inf) : (infs D).length = D.length * 3 := flat_len _ 3 Inf.cells3 D

theorem inf_at {w : World} {B n c : Nat} {A : Option Addr} {D : List Inf} (h : Sl w B (.slice A n c) 3 n (infs D)) {k : Nat} (hk : k < n) (hD : D.length = n) :
    ∃ ad, A = some ad ∧ (ad.add (k * 3)).block < B ∧ w.cell? (ad.add (k * 3)) = some (.int .i64 (D[k]'(by omega)).i) ∧
      w.cell? ⟨(ad.add (k * 3)).block, (ad.add (k * 3)).off + 1, none⟩ = some (.int .i64 (D[k]'(by omega)).t) ∧
      w.cell? ⟨(ad.add (k * 3)).block, (ad.add (k * 3)).off + 2, none⟩ = some (.bool (D[k]'(by omega)).l) := by
  obtain ⟨ad, rfl, hb, hh⟩ := h.at_ hk
  rw [infs, part_of _ 3 Inf.cells3 D k (by omega)] at hh
  refine ⟨ad, rfl, by rw [add_blk]; exact hb, ?_, ?_, ?_⟩
  · have := hh 0 _ rfl
    rwa [add_add'] at this
  · have := hh 1 _ rfl
    rwa [add_fld _ _ 1 (by omega)] at this
  · have := hh 2 _ rfl
    rwa [add_fld _ _ 2 (by omega)] at this

/-- one round of Stage -/
def stg1 (n : Int) (p : Inf) : Int := if p.l then 3 else if p.t > n ∧ n < 3 then p.t else n
def stg (D : List Inf) : Int := D.foldl stg1 0

set_option maxHeartbeats 1000000 in
theorem refStage (v : Value) (D : List Inf) (n B : Nat) (w : World) (hs : Sl w B v 3 n (infs D)) (hD : D.length = n) :
    Calls Try.prog 30 #[v] w fun e w' => e = .returned (.int .i64 (stg D)) ∧ w = w' := by
  obtain ⟨A, c, rfl, hnc⟩ := hs.form
  have hmax := hs.max
  have HS := hide hs
  have HD := hide hD
  clear hs hD
  go_enter Try.func30, Try.ntmps30
  go_wp2
  go_loop [3, 4] (fun s i => ∃ k : Nat, k ≤ n ∧ i = .int .i64 k ∧ s = .int .i64 (stg (D.take k))) (fun _ i => n - (intOf i).toNat)
  case atStart => exact ⟨0, Nat.zero_le _, rfl, rfl⟩
  case round =>
    obtain ⟨k, hk, rfl, rfl⟩ := hrel
    by_cases hlt : k < n
    · obtain ⟨ad, rfl, hb, h0, h1, h2⟩ := inf_at HS.out hlt HD.out
      have hsn : Hid (stg (D.take (k + 1)) = stg1 (stg (D.take k)) (D[k]'(by rw [HD.out]; exact hlt))) := by
        show stg _ = _
        have hkk : k < D.length := by rw [HD.out]; exact hlt
        rw [List.take_succ_eq_append_getElem hkk, stg, List.foldl_append]
        rfl
      generalize D[k]'(by rw [HD.out]; exact hlt) = p at h0 h1 h2 hsn
      generalize stg (D.take k) = s at hsn
      obtain ⟨pi, pt, pl⟩ := p
      simp only at h0 h1 h2
      cases pl
      all_goals
        go_wp2
        all_goals
          go_round
          case rel =>
            refine ⟨k + 1, by omega, by go_num, ?_⟩
            rw [hsn.out, stg1]
            first | (simp_all; done) | (simp_all; omega)
          case measure => simp [intOf]; omega
    · go_wp2
      go_ret
      have : n ≤ k := by omega
      exact ⟨by rw [List.take_of_length_le (by rw [HD.out]; omega)]; rfl, rfl⟩

/-- may p stand behind q? -/
def fol1 (p q : Inf) : Bool := !q.l && (!(p.t == 0) || q.t == 0) && (!(p.t == 1) || q.t == 0)
def fol (D : List Inf) (p : Inf) : Bool := decide (p.i = D.length ∧ 0 ≤ p.t ∧ p.t ≤ 2) && D.all (fol1 p)

theorem fol_no (D : List Inf) (p : Inf) (h : ¬ (p.i = D.length ∧ 0 ≤ p.t ∧ p.t ≤ 2)) : fol D p = false := by simp [fol, h]
theorem fol_all (D : List Inf) (p : Inf) (h : p.i = D.length ∧ 0 ≤ p.t ∧ p.t ≤ 2) : fol D p = D.all (fol1 p) := by simp [fol, h]
theorem all_bad {α : Type} (f : α → Bool) (D : List α) (k : Nat) (hk : k < D.length) (h : f D[k] = false) : D.all f = false := by
  rw [List.all_eq_false]
  exact ⟨D[k], List.getElem_mem hk, by simp [h]⟩
theorem all_take {α : Type} (f : α → Bool) (D : List α) (k : Nat) (hk : k < D.length) (h : f D[k] = true) (h2 : (D.take k).all f = true) : (D.take (k + 1)).all f = true := by
  rw [List.take_succ_eq_append_getElem hk, List.all_append, h2]
  simp [h]

end Go.Proofs.Ytghkkekebjhjlaa
