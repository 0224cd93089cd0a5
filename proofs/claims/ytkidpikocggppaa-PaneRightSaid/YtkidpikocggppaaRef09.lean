/- What the reference functions of layer 9 compute: Follows and Stage. -/
import Derived.Test.YtkidpikocggppaaProg
import Derived.Test.YtkidpikocggppaaLib
namespace Go.Proofs.Ytkidpikocggppaa
open Go.RowKit
set_option linter.unusedVariables false
set_option linter.unusedSimpArgs false

/-- a pane -/
structure Inf where
  i : Int
  t : Int
  l : Bool
def Inf.cells (p : Inf) : List Value := [.int .i64 p.i, .int .i64 p.t, .bool p.l]
def Inf.val (p : Inf) : Value := .agg #[.int .i64 p.i, .int .i64 p.t, .bool p.l]
theorem Inf.cells3 (p : Inf) : p.cells.length = 3 := rfl
def infs (D : List Inf) : List Value := D.flatMap Inf.cells
theorem infs_len (D : List Inf) : (infs D).length = D.length * 3 := flat_len _ 3 Inf.cells3 D

theorem inf_at {w : World} {B n c : Nat} {A : Option Addr} {D : List Inf} (h : Sl w B (.slice A n c) 3 n (infs D)) {k : Nat} (hk : k < n) (hD : D.length = n) :
    ∃ ad, A = some ad ∧ (ad.add (k * 3)).block < B ∧ w.cell? (ad.add (k * 3)) = some (.int .i64 (D[k]'(by omega)).i) ∧
      w.cell? ⟨(ad.add (k * 3)).block, (ad.add (k * 3)).off + 1, none⟩ = some (.int .i64 (D[k]'(by omega)).t) ∧
      w.cell? ⟨(ad.add (k * 3)).block, (ad.add (k * 3)).off + 2, none⟩ = some (.bool (D[k]'(by omega)).l) := by
  obtain ⟨ad, rfl, hb, hh⟩ := h.at_ hk
  rw [infs, part_of _ 3 Inf.cells3 D k (by omega)] at hh
  refine ⟨ad, rfl, by rw [add_blk]; exact hb, ?_, ?_, ?_⟩
  · have := hh 0 _ rfl
    rwa [add_add'] at this
  · have := hh 1 _ rfl
    rwa [add_fld _ _ 1 (by omega)] at this
  · have := hh 2 _ rfl
    rwa [add_fld _ _ 2 (by omega)] at this

/-- one round of Stage -/
def stg1 (n : Int) (p : Inf) : Int := if p.l then 3 else if p.t > n ∧ n < 3 then p.t else n
def stg (D : List Inf) : Int := D.foldl stg1 0

set_option maxHeartbeats 1000000 in
theorem refStage (v : Value) (D : List Inf) (n B : Nat) (w : World) (hs : Sl w B v 3 n (infs D)) (hD : D.length = n) :
    Calls Try.prog 13 #[v] w fun e w' => e = .returned (.int .i64 (stg D)) ∧ w = w' := by
  obtain ⟨A, c, rfl, hnc⟩ := hs.form
  have hmax := hs.max
  have HS := hide hs
  have HD := hide hD
  clear hs hD
  go_enter Try.func13, Try.ntmps13
  go_wp2
  go_loop [3, 4] (fun s i => ∃ k : Nat, k ≤ n ∧ i = .int .i64 k ∧ s = .int .i64 (stg (D.take k))) (fun _ i => n - (intOf i).toNat)
  case atStart => exact ⟨0, Nat.zero_le _, rfl, rfl⟩
  case round =>
    obtain ⟨k, hk, rfl, rfl⟩ := hrel
    by_cases hlt : k < n
    · obtain ⟨ad, rfl, hb, h0, h1, h2⟩ := inf_at HS.out hlt HD.out
      have hsn : Hid (stg (D.take (k + 1)) = stg1 (stg (D.take k)) (D[k]'(by rw [HD.out]; exact hlt))) := by
        show stg _ = _
        have hkk : k < D.length := by rw [HD.out]; exact hlt
        rw [List.take_succ_eq_append_getElem hkk, stg, List.foldl_append]
        rfl
      generalize D[k]'(by rw [HD.out]; exact hlt) = p at h0 h1 h2 hsn
      generalize stg (D.take k) = s at hsn
      obtain ⟨pi, pt, pl⟩ := p
      simp only at h0 h1 h2
      cases pl
      all_goals
        go_wp2
        all_goals
          go_round
          case rel =>
            refine ⟨k + 1, by omega, by go_num, ?_⟩
            rw [hsn.out, stg1]
            first | (simp_all; done) | (simp_all; omega)
          case measure => simp [intOf]; omega
    · go_wp2
      go_ret
      have : n ≤ k := by omega
      exact ⟨by rw [List.take_of_length_le (by rw [HD.out]; omega)]; rfl, rfl⟩

/-- may p stand behind q? -/
def fol1 (p q : Inf) : Bool := !q.l && (!(p.t == 0) || q.t == 0) && (!(p.t == 1) || q.t == 0)
def fol (D : List Inf) (p : Inf) : Bool := decide (p.i = D.length ∧ 0 ≤ p.t ∧ p.t ≤ 2) && D.all (fol1 p)

theorem fol_no (D : List Inf) (p : Inf) (h : ¬ (p.i = D.length ∧ 0 ≤ p.t ∧ p.t ≤ 2)) : fol D p = false := by simp [fol, h]
theorem fol_all (D : List Inf) (p : Inf) (h : p.i = D.length ∧ 0 ≤ p.t ∧ p.t ≤ 2) : fol D p = D.all (fol1 p) := by simp [fol, h]
theorem all_bad {α : Type} (f : α → Bool) (D : List α) (k : Nat) (hk : k < D.length) (h : f D[k] = false) : D.all f = false := by
  rw [List.all_eq_false]
  exact ⟨D[k], List.getElem_mem hk, by simp [h]⟩
theorem all_take {α : Type} (f : α → Bool) (D : List α) (k : Nat) (hk : k < D.length) (h : f D[k] = true) (h2 : (D.take k).all f = true) : (D.take (k + 1)).all f = true := by
  rw [List.take_succ_eq_append_getElem hk, List.all_append, h2]
  simp [h]

set_option maxHeartbeats 4000000 in
theorem refFollows (v : Value) (D : List Inf) (p : Inf) (n : Nat) (w : World) (hs : Sl w w.heap.size v 3 n (infs D)) (hD : D.length = n) :
    Calls Try.prog 10 #[v, p.val] w fun e w' => e = .returned (.bool (fol D p)) ∧ Below w.heap.size w w' := by
  obtain ⟨A, c, rfl, hnc⟩ := hs.form
  have hmax := hs.max
  have HS := hide hs
  have HD := hide hD
  by_cases hp : p.i = n ∧ 0 ≤ p.t ∧ p.t ≤ 2
  · have HR := hide (fol_all D p (by rw [hD]; exact hp))
    obtain ⟨pi, pt, pl⟩ := p
    simp only at hp
    obtain ⟨rfl, hp0, hp2⟩ := hp
    simp only [Inf.val]
    clear hs hD
    obtain ⟨P, hP⟩ : ∃ P : Inf, P = ⟨(n : Int), pt, pl⟩ := ⟨_, rfl⟩
    rw [← hP] at HR
    have HP := hide hP
    clear hP
    have c3 : pt = 0 ∨ pt = 1 ∨ pt = 2 := by omega
    rcases c3 with rfl | rfl | rfl
    all_goals
      go_enter Try.func10, Try.ntmps10
      go_wp2
      go_loop [5] (fun i => ∃ k : Nat, k ≤ n ∧ i = .int .i64 k ∧ (D.take k).all (fol1 P) = true) (fun i => n - (intOf i).toNat)
      case atStart => exact ⟨0, Nat.zero_le _, rfl, rfl⟩
      case round =>
        obtain ⟨k, hk, rfl, hall⟩ := hrel
        have HA := hide hall
        clear hall
        by_cases hlt : k < n
        · obtain ⟨ad, rfl, hb, h0, h1, h2⟩ := inf_at HS.out hlt HD.out
          have HB := hide (all_bad (fol1 P) D k (by rw [HD.out]; exact hlt))
          have HG := hide fun h => all_take (fol1 P) D k (by rw [HD.out]; exact hlt) h HA.out
          generalize D[k]'(by rw [HD.out]; exact hlt) = q at h0 h1 h2 HB HG
          obtain ⟨qi, qt, ql⟩ := q
          simp only at h0 h1 h2
          by_cases hq : qt = 0
          · subst hq
            cases ql
            all_goals
              go_wp2
              all_goals first
                | (go_round
                   case rel => exact ⟨k + 1, by omega, by go_num, HG.out (by simp [fol1, HP.out])⟩
                   case measure => simp [intOf]; omega)
                | (go_ret
                   exact ⟨by rw [← HP.out, HR.out, HB.out (by simp [fol1, HP.out])]; rfl, (Below.refl _ _).alloc (Nat.le_refl _) _⟩)
          · have hq0 : (qt == 0) = false := by simpa using hq
            have hq1 : (qt != 0) = true := by simpa using hq
            clear hq
            cases ql
            all_goals
              go_wp2
              all_goals first
                | (go_round
                   case rel => exact ⟨k + 1, by omega, by go_num, HG.out (by simp [fol1, HP.out])⟩
                   case measure => simp [intOf]; omega)
                | (go_ret
                   exact ⟨by rw [← HP.out, HR.out, HB.out (by simp_all [fol1, HP.out])]; rfl, (Below.refl _ _).alloc (Nat.le_refl _) _⟩)
        · go_wp2
          go_ret
          have hkn : n ≤ k := by omega
          exact ⟨by rw [← HP.out, HR.out, ← HA.out, List.take_of_length_le (by rw [HD.out]; omega)]; rfl, (Below.refl _ _).alloc (Nat.le_refl _) _⟩
  · have HR := hide (fol_no D p (by rw [hD]; exact hp))
    obtain ⟨pi, pt, pl⟩ := p
    simp only at hp
    simp only [Inf.val]
    clear hs hD
    by_cases h1 : pi = n
    · subst h1
      by_cases h2 : pt < 0
      · go_enter Try.func10, Try.ntmps10
        go_wp2
        go_ret
        exact ⟨by rw [HR.out]; rfl, (Below.refl _ _).alloc (Nat.le_refl _) _⟩
      · have h3 : 2 < pt := by omega
        clear hp
        go_enter Try.func10, Try.ntmps10
        go_wp2
        go_ret
        exact ⟨by rw [HR.out]; rfl, (Below.refl _ _).alloc (Nat.le_refl _) _⟩
    · have h2 : (pi != n) = true := by simpa using h1
      clear h1 hp
      go_enter Try.func10, Try.ntmps10
      go_wp2
      go_ret
      exact ⟨by rw [HR.out]; rfl, (Below.refl _ _).alloc (Nat.le_refl _) _⟩

end Go.Proofs.Ytkidpikocggppaa
