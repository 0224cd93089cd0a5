/- What the functions of package pane do: New, Fire, Next, Stage. -/
import Derived.Test.YtghkkekebjhjlaaProg
import Derived.Test.YtghkkekebjhjlaaLib
namespace Go.Proofs.Ytghkkekebjhjlaa
open Go.RowKit
set_option linter.unusedVariables false
set_option linter.unusedSimpArgs false

/-- may a pane of timing t be fired at stage st? -/
def fok (st t : Int) : Bool := (decide (t = 0 ∨ t = 1) && decide (st = 0)) || (decide (t = 2) && decide (st ≠ 3))
/-- the stage behind it -/
def fnext (t : Int) (l : Bool) : Int := if l then 3 else t
def lineB (w : World) (b : Nat) (n st : Int) : Prop := Blk w b 72 #[.int .i64 n, .int .i64 st]

theorem lineB.put0 {w : World} {b : Nat} {n st : Int} (h : lineB w b n st) (m : Int) : lineB (w.setCell ⟨b, 0, none⟩ (.int .i64 m)) b m st := by simpa [lineB] using Blk.put h 0 (.int .i64 m)
theorem lineB.put1 {w : World} {b : Nat} {n st : Int} (h : lineB w b n st) (m : Int) : lineB (w.setCell ⟨b, 1, none⟩ (.int .i64 m)) b n m := by simpa [lineB] using Blk.put h 1 (.int .i64 m)
theorem lineB.alloc {w : World} {b : Nat} {n st : Int} (h : lineB w b n st) (o : Obj) : lineB (w.alloc o) b n st := Blk.alloc h o

theorem new_any (w : World) : Calls Try.prog 19 #[] w fun e w' => e = .returned (.pointer (some ⟨w.heap.size, 0, none⟩)) ∧ lineB w' w.heap.size 0 0 ∧ w' = w.alloc (.cells #[.int .i64 0, .int .i64 0] 72) := by
  go_enter Try.func19, Try.ntmps19
  go_wp2
  go_ret
  exact ⟨rfl, Blk.new _ _ _, rfl⟩

theorem next_any (b : Nat) (n st : Int) (w : World) (hb : lineB w b n st) : Calls Try.prog 23 #[.pointer (some ⟨b, 0, none⟩)] w fun e w' => e = .returned (.int .i64 n) ∧ w = w' := by
  have h0 := hb.cell 0
  simp only [List.getElem?_toArray, List.getElem?_cons_zero] at h0
  have H := hide hb
  clear hb
  go_enter Try.func23, Try.ntmps23
  go_wp2
  go_ret
  exact ⟨rfl, rfl⟩

theorem stage_any (b : Nat) (n st : Int) (w : World) (hb : lineB w b n st) : Calls Try.prog 24 #[.pointer (some ⟨b, 0, none⟩)] w fun e w' => e = .returned (.int .i64 st) ∧ w = w' := by
  have h0 := hb.cell 1
  simp only [List.getElem?_toArray, List.getElem?_cons_succ, List.getElem?_cons_zero] at h0
  have H := hide hb
  clear hb
  go_enter Try.func24, Try.ntmps24
  go_wp2
  go_ret
  exact ⟨rfl, rfl⟩

/-- what Fire gives -/
def FirePost (w : World) (b : Nat) (i t : Int) (l : Bool) (er n st : Int) (e : Ending) (w' : World) : Prop :=
  e = .returned (.tuple #[.agg #[.int .i64 i, .int .i64 t, .bool l], .int .i64 er]) ∧ Fr (· = b) w w' ∧ lineB w' b n st

set_option maxHeartbeats 1000000 in
theorem fire_yes (b : Nat) (n st t : Int) (l : Bool) (w : World) (hb : lineB w b n st) (hok : fok st t = true) (hn : 0 ≤ n) (hn2 : n ≤ 4611686018427387904) :
    Calls Try.prog 31 #[.pointer (some ⟨b, 0, none⟩), .int .i64 t, .bool l] w (FirePost w b n t l 0 (n + 1) (fnext t l)) := by
  have h0 := hb.cell 0
  have h1 := hb.cell 1
  have f0 := hb.frozen 0
  have f1 := hb.frozen 1
  have hlt := hb.lt
  simp only [List.getElem?_toArray, List.getElem?_cons_succ, List.getElem?_cons_zero] at h0 h1
  have H := hide hb
  clear hb
  have key : (t = 0 ∧ st = 0) ∨ (t = 1 ∧ st = 0) ∨ (t = 2 ∧ st ≠ 3) := by
    simp [fok] at hok
    omega
  clear hok
  rcases key with ⟨rfl, rfl⟩ | ⟨rfl, rfl⟩ | ⟨rfl, hst⟩
  · cases l
    all_goals
      go_enter Try.func31, Try.ntmps31
      go_wp2
      go_step3
      go_wp2
      rw [Exit.noGoto_ret]
      refine bodyPost_ret (by simp [results, Try.results31, go_sem]) rfl ⟨rfl, ?_, ?_⟩
      · with_reducible repeat (first | exact Fr.refl _ _ | apply Fr.alloc | apply Fr.put1)
      · simp only [fnext, Bool.false_eq_true, if_true, if_false]
        with_reducible repeat (first | exact H.out | apply lineB.alloc | apply lineB.put0 | apply lineB.put1)
  · cases l
    all_goals
      go_enter Try.func31, Try.ntmps31
      go_wp2
      go_step3
      go_wp2
      rw [Exit.noGoto_ret]
      refine bodyPost_ret (by simp [results, Try.results31, go_sem]) rfl ⟨rfl, ?_, ?_⟩
      · with_reducible repeat (first | exact Fr.refl _ _ | apply Fr.alloc | apply Fr.put1)
      · simp only [fnext, Bool.false_eq_true, if_true, if_false]
        with_reducible repeat (first | exact H.out | apply lineB.alloc | apply lineB.put0 | apply lineB.put1)
  · have hs : (st == 3) = false := by simpa using hst
    clear hst
    cases l
    all_goals
      go_enter Try.func31, Try.ntmps31
      go_wp2
      go_step3
      go_wp2
      rw [Exit.noGoto_ret]
      refine bodyPost_ret (by simp [results, Try.results31, go_sem]) rfl ⟨rfl, ?_, ?_⟩
      · with_reducible repeat (first | exact Fr.refl _ _ | apply Fr.alloc | apply Fr.put1)
      · simp only [fnext, Bool.false_eq_true, if_true, if_false]
        with_reducible repeat (first | exact H.out | apply lineB.alloc | apply lineB.put0 | apply lineB.put1)

set_option maxHeartbeats 2000000 in
theorem fire_no (b : Nat) (n st t : Int) (l : Bool) (w : World) (hb : lineB w b n st) (hok : fok st t = false) :
    Calls Try.prog 31 #[.pointer (some ⟨b, 0, none⟩), .int .i64 t, .bool l] w (FirePost w b 0 0 false 90 n st) := by
  have h0 := hb.cell 0
  have h1 := hb.cell 1
  have f0 := hb.frozen 0
  have f1 := hb.frozen 1
  have hlt := hb.lt
  simp only [List.getElem?_toArray, List.getElem?_cons_succ, List.getElem?_cons_zero] at h0 h1
  have H := hide hb
  clear hb
  have key : (t = 0 ∧ st ≠ 0) ∨ (t = 1 ∧ st ≠ 0) ∨ (t = 2 ∧ st = 3) ∨ (t ≠ 0 ∧ t ≠ 1 ∧ t ≠ 2) := by
    simp [fok] at hok
    omega
  clear hok
  rcases key with ⟨rfl, hst⟩ | ⟨rfl, hst⟩ | ⟨rfl, rfl⟩ | ⟨g0, g1, g2⟩
  · have hs : (st != 0) = true := by simpa using hst
    clear hst
    go_enter Try.func31, Try.ntmps31
    go_wp2
    refine wp_scope_ahead 0 rfl ?_
    go_wp2
    go_step3
    refine And.intro rfl ?_
    show Code.wp _ _ _ _ _
    go_wp2
    rw [Exit.noGoto_ret]
    refine bodyPost_ret (by simp [results, Try.results31, go_sem]) rfl ⟨rfl, ?_, ?_⟩
    · with_reducible repeat (first | exact Fr.refl _ _ | apply Fr.alloc | apply Fr.put1)
    · with_reducible repeat (first | exact H.out | apply lineB.alloc | apply lineB.put0 | apply lineB.put1)
  · have hs : (st != 0) = true := by simpa using hst
    clear hst
    go_enter Try.func31, Try.ntmps31
    go_wp2
    refine wp_scope_ahead 0 rfl ?_
    go_wp2
    go_step3
    refine And.intro rfl ?_
    show Code.wp _ _ _ _ _
    go_wp2
    rw [Exit.noGoto_ret]
    refine bodyPost_ret (by simp [results, Try.results31, go_sem]) rfl ⟨rfl, ?_, ?_⟩
    · with_reducible repeat (first | exact Fr.refl _ _ | apply Fr.alloc | apply Fr.put1)
    · with_reducible repeat (first | exact H.out | apply lineB.alloc | apply lineB.put0 | apply lineB.put1)
  · skip
    go_enter Try.func31, Try.ntmps31
    go_wp2
    refine wp_scope_ahead 0 rfl ?_
    go_wp2
    go_step3
    refine And.intro rfl ?_
    show Code.wp _ _ _ _ _
    go_wp2
    rw [Exit.noGoto_ret]
    refine bodyPost_ret (by simp [results, Try.results31, go_sem]) rfl ⟨rfl, ?_, ?_⟩
    · with_reducible repeat (first | exact Fr.refl _ _ | apply Fr.alloc | apply Fr.put1)
    · with_reducible repeat (first | exact H.out | apply lineB.alloc | apply lineB.put0 | apply lineB.put1)
  · have hs0 : (t == 0) = false := by simpa using g0
    have hs1 : (t == 1) = false := by simpa using g1
    have hs2 : (t == 2) = false := by simpa using g2
    clear g0 g1 g2
    go_enter Try.func31, Try.ntmps31
    go_wp2
    refine wp_scope_ahead 0 rfl ?_
    go_wp2
    go_step3
    refine And.intro rfl ?_
    show Code.wp _ _ _ _ _
    go_wp2
    rw [Exit.noGoto_ret]
    refine bodyPost_ret (by simp [results, Try.results31, go_sem]) rfl ⟨rfl, ?_, ?_⟩
    · with_reducible repeat (first | exact Fr.refl _ _ | apply Fr.alloc | apply Fr.put1)
    · with_reducible repeat (first | exact H.out | apply lineB.alloc | apply lineB.put0 | apply lineB.put1)

end Go.Proofs.Ytghkkekebjhjlaa
