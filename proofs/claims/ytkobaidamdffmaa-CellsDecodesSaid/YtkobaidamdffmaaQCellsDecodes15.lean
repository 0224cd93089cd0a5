/- Rows of the reference's cells in memory; plain facts on a table's length. / The reference's Loads, KeyRight, Right (printed by genrr15.py). / The reference's KeyRight, Right (printed by genrr15b.py). -/
import Derived.Test.YtkobaidamdffmaaQCellsDecodes14
import Derived.Test.YtkobaidamdffmaaQCellsDecodes12

namespace Go.Proofs.Ytkobaidamdffmaa
open Go.RowKit Go.Sort
set_option linter.unusedVariables false
set_option linter.unusedSimpArgs false

/-- a cell of the reference in memory -/
structure RC where
  k : Value
  kb : List Int
  f : Int
  t : Int
  a : Value
  d : CD
def RC.cells (x : RC) : List Value := [x.k, .int .i64 x.f, .int .i64 x.t, x.a, .int .i64 x.d.s, .int .i64 x.d.n, .int .i64 x.d.g, .int .i64 x.d.h, .bool x.d.p, .bool x.d.c]
def rcs (D : List RC) : List Value := D.flatMap RC.cells
/-- a cell as an argument -/
structure RCQ (w : World) (x : RC) : Prop where
  ks : Sl w w.heap.size x.k 1 x.kb.length (bys x.kb)
  kn : x.kb.length ≤ 140737488355328
  k8 : Bytes8 x.kb
  ac : Sl w w.heap.size x.a 1 x.d.b.length (bys x.d.b)
  an : x.d.b.length ≤ 140737488355328
  a8 : Bytes8 x.d.b
theorem rcV_eq (x : RC) : Value.agg x.cells.toArray = rcV x.k x.f x.t x.a x.d.s x.d.n x.d.g x.d.h x.d.p x.d.c := rfl
theorem rc_at {w : World} {B n c : Nat} {A : Option Addr} {S : List RC} (h : Sl w B (.slice A n c) 10 n (rcs S)) {k : Nat} (hk : k < n) (hD : S.length = n) :
    ∃ ad, A = some ad ∧ (ad.add (k * 10)).block < B ∧ w.cell? (ad.add (k * 10)) = some (S[k]'(by omega)).k ∧
      w.cell? ⟨(ad.add (k * 10)).block, (ad.add (k * 10)).off + 1, none⟩ = some (.int .i64 (S[k]'(by omega)).f) ∧
      w.cell? ⟨(ad.add (k * 10)).block, (ad.add (k * 10)).off + 2, none⟩ = some (.int .i64 (S[k]'(by omega)).t) ∧
      w.cell? ⟨(ad.add (k * 10)).block, (ad.add (k * 10)).off + 3, none⟩ = some (S[k]'(by omega)).a ∧
      w.cell? ⟨(ad.add (k * 10)).block, (ad.add (k * 10)).off + 4, none⟩ = some (.int .i64 (S[k]'(by omega)).d.s) ∧
      w.cell? ⟨(ad.add (k * 10)).block, (ad.add (k * 10)).off + 5, none⟩ = some (.int .i64 (S[k]'(by omega)).d.n) ∧
      w.cell? ⟨(ad.add (k * 10)).block, (ad.add (k * 10)).off + 6, none⟩ = some (.int .i64 (S[k]'(by omega)).d.g) ∧
      w.cell? ⟨(ad.add (k * 10)).block, (ad.add (k * 10)).off + 7, none⟩ = some (.int .i64 (S[k]'(by omega)).d.h) ∧
      w.cell? ⟨(ad.add (k * 10)).block, (ad.add (k * 10)).off + 8, none⟩ = some (.bool (S[k]'(by omega)).d.p) ∧
      w.cell? ⟨(ad.add (k * 10)).block, (ad.add (k * 10)).off + 9, none⟩ = some (.bool (S[k]'(by omega)).d.c) := by
  obtain ⟨ad, rfl, hb, hh⟩ := h.at_ hk
  rw [rcs, part_of RC.cells 10 (fun _ => rfl) S k (by omega)] at hh
  have hg : ∀ j v, (S[k]'(by omega)).cells[j + 1]? = some v → w.cell? ⟨(ad.add (k * 10)).block, (ad.add (k * 10)).off + (j + 1), none⟩ = some v := by
    intro j v hv
    have h9 := hh (j + 1) v hv
    rw [add_add', add_fld ad (k * 10) (j + 1) (by omega)] at h9
    exact h9
  refine ⟨ad, rfl, by rw [add_blk]; exact hb, ?_, hg 0 _ rfl, hg 1 _ rfl, hg 2 _ rfl, hg 3 _ rfl, hg 4 _ rfl, hg 5 _ rfl, hg 6 _ rfl, hg 7 _ rfl, hg 8 _ rfl⟩
  have := hh 0 _ rfl
  rwa [add_add'] at this

section
variable {α β : Type} [DecidableEq α]
theorem put_len : ∀ (L : List (α × β)) (a : α) (v : β), L.length ≤ (putM L a v).length ∧ (putM L a v).length ≤ L.length + 1
  | [], a, v => by simp [putM]
  | (b, u) :: L, a, v => by
    have h := put_len L a v
    unfold putM
    split
    · simp
    · simp only [List.length_cons]; omega
theorem del_len : ∀ (L : List (α × β)) (a : α), L.length ≤ (delM L a).length + 1 ∧ (delM L a).length ≤ L.length
  | [], a => by simp [delM]
  | (b, u) :: L, a => by
    have h := del_len L a
    unfold delM
    split
    · simp
    · simp only [List.length_cons]; omega
theorem lk_memE : ∀ {L : List (α × β)} {a : α}, a ∈ L.map (·.1) → ∃ u, lk L a = some u ∧ (a, u) ∈ L
  | [], a, h => by simp at h
  | (b, u) :: L, a, h => by
    unfold lk
    split
    · next h1 => exact ⟨u, rfl, by rw [h1]; exact List.mem_cons_self⟩
    · next h1 =>
      rw [List.map_cons, List.mem_cons] at h
      obtain ⟨v, h2, h3⟩ := lk_memE (h.resolve_left h1)
      exact ⟨v, h2, List.mem_cons_of_mem _ h3⟩
end
/-- the order of cells is nought just at the same key -/
theorem ordC_zero (x y : Win) (D E : List Int) : ordC x y D E = 0 ↔ x = y ∧ D = E := by
  unfold ordC
  split
  · next h => rw [bytesR_zero]; simp [h]
  · next h =>
    split <;> simp [h]
end Go.Proofs.Ytkobaidamdffmaa

namespace Go.Proofs.Ytkobaidamdffmaa
open Go.RowKit Go.Sort
set_option linter.unusedVariables false
set_option linter.unusedSimpArgs false

theorem r10right_any (w : World) : Calls Try.prog 72 #[.agg #[.int .i64 0, .int .i64 0, .int .i64 0, .bool false]] w fun e w' => e = .returned (.bool true) ∧ Below w.heap.size w w' := by
  go_enter Try.func72, Try.ntmps72
  go_wp2_with fail
  go_ret
  exact ⟨rfl, (Below.refl _ _).alloc (Nat.le_refl _) _⟩
theorem rin_any (t : Int) (w : World) : Calls Try.prog 71 #[.int .i64 t, .int .i64 0, .int .i64 1048576] w fun e w' => e = .returned (.bool (decide (0 ≤ t ∧ t ≤ 1048576))) ∧ Below w.heap.size w w' := by
  obtain ⟨r, hr⟩ : ∃ r : Bool, r = decide (0 ≤ t ∧ t ≤ 1048576) := ⟨_, rfl⟩
  rw [← hr]
  have HR := hide hr
  clear hr
  have hc : ¬ 0 ≤ t ∨ (0 ≤ t ∧ ¬ t ≤ 1048576) ∨ (0 ≤ t ∧ t ≤ 1048576) := by omega
  rcases hc with h1 | ⟨h1, h2⟩ | ⟨h1, h2⟩
  all_goals
    go_enter Try.func71, Try.ntmps71
    go_wp2_with fail
    go_ret
    refine ⟨?_, Below.refl _ _⟩
    refine congrArg (fun b => Ending.returned (Value.bool b)) (?_ : _ = r)
    rw [HR.out]
    first
      | (rw [decide_eq_false (show ¬ (0 ≤ t ∧ t ≤ 1048576) by omega)]; done)
      | (rw [decide_eq_true (show (0 ≤ t ∧ t ≤ 1048576) by omega)]; done)
      | (simp; omega)
      | simp [h1, h2]
theorem rtime_any (t : Int) (w : World) : Calls Try.prog 54 #[.int .i64 t] w fun e w' => e = .returned (.bool (decide (0 ≤ t ∧ t ≤ 1048576))) ∧ Below w.heap.size w w' := by
  go_enter Try.func54, Try.ntmps54
  go_wp2_with fail
  refine (rin_any t w).mono ?_
  rintro e w1 ⟨rfl, hb⟩
  go_wp2_with fail
  go_ret
  exact ⟨by first | rfl | simp, hb⟩
abbrev r10T : Nat := 130
set_option maxHeartbeats 8000000 in
theorem loads_any (n g h : Int) (p c : Bool) (w : World) : Calls Try.prog 55 #[.agg #[.int .i64 n, .int .i64 g, .int .i64 h, .bool p, .bool c]] w fun e w' => e = .returned (.bool (decide (ldS n g h p c))) ∧ Below w.heap.size w w' := by
  obtain ⟨r, hr⟩ : ∃ r : Bool, r = decide (ldS n g h p c) := ⟨_, rfl⟩
  rw [← hr]
  have HRD := hide hr
  have HN : Hid (¬ ldS n g h p c → r = false) := fun h9 => by rw [hr]; exact decide_eq_false h9
  clear hr
  have HB : Hid (Below w.heap.size w ((w.alloc (.cells #[.int .i64 n, .int .i64 g, .int .i64 h, .bool p, .bool c] rsT)).alloc (.cells #[.int .i64 0, .int .i64 0, .int .i64 0, .bool false] r10T))) := ((Below.refl w.heap.size w).alloc (Nat.le_refl _) _).alloc (by simp) _
  have HP : Hid (Blk ((w.alloc (.cells #[.int .i64 n, .int .i64 g, .int .i64 h, .bool p, .bool c] rsT)).alloc (.cells #[.int .i64 0, .int .i64 0, .int .i64 0, .bool false] r10T)) w.heap.size rsT #[.int .i64 n, .int .i64 g, .int .i64 h, .bool p, .bool c]) := (Blk.new w _ _).alloc _
  have HQ : Hid (Blk ((w.alloc (.cells #[.int .i64 n, .int .i64 g, .int .i64 h, .bool p, .bool c] rsT)).alloc (.cells #[.int .i64 0, .int .i64 0, .int .i64 0, .bool false] r10T)) (w.heap.size + 1) r10T #[.int .i64 0, .int .i64 0, .int .i64 0, .bool false]) := by
    have h9 := Blk.new (w.alloc (.cells #[.int .i64 n, .int .i64 g, .int .i64 h, .bool p, .bool c] rsT)) r10T #[.int .i64 0, .int .i64 0, .int .i64 0, .bool false]
    simpa [Hid] using h9
  go_enter Try.func55, Try.ntmps55
  go_upto_region 2 with fail
  change Code.wp _ _ _ _ ((w.alloc (.cells #[.int .i64 n, .int .i64 g, .int .i64 h, .bool p, .bool c] rsT)).alloc (.cells #[.int .i64 0, .int .i64 0, .int .i64 0, .bool false] r10T))
  generalize ((w.alloc (.cells #[.int .i64 n, .int .i64 g, .int .i64 h, .bool p, .bool c] rsT)).alloc (.cells #[.int .i64 0, .int .i64 0, .int .i64 0, .bool false] r10T)) = w1 at *
  obtain ⟨pb, hpb⟩ : ∃ pb, pb = w.heap.size := ⟨_, rfl⟩
  obtain ⟨qb, hqb⟩ : ∃ qb, qb = w.heap.size + 1 := ⟨_, rfl⟩
  rw [← hqb] at HQ ⊢
  rw [← hpb] at HP ⊢
  clear hpb hqb
  have hpl := HP.out.lt
  have hql := HQ.out.lt
  have p0 : w1.cell? ⟨pb, 0, none⟩ = some (.int .i64 n) := HP.out.cell 0
  have p1 : w1.cell? ⟨pb, 1, none⟩ = some (.int .i64 g) := HP.out.cell 1
  have p2 : w1.cell? ⟨pb, 2, none⟩ = some (.int .i64 h) := HP.out.cell 2
  have p3 : w1.cell? ⟨pb, 3, none⟩ = some (.bool p) := HP.out.cell 3
  have p4 : w1.cell? ⟨pb, 4, none⟩ = some (.bool c) := HP.out.cell 4
  have q0 : w1.cell? ⟨qb, 0, none⟩ = some (.int .i64 0) := HQ.out.cell 0
  have q1 : w1.cell? ⟨qb, 1, none⟩ = some (.int .i64 0) := HQ.out.cell 1
  have q2 : w1.cell? ⟨qb, 2, none⟩ = some (.int .i64 0) := HQ.out.cell 2
  have q3 : w1.cell? ⟨qb, 3, none⟩ = some (.bool false) := HQ.out.cell 3
  have hc : (¬ 0 ≤ n) ∨ (0 ≤ n ∧ ¬ n ≤ 1099511627776) ∨ (0 ≤ n ∧ n ≤ 1099511627776 ∧ ¬ 0 ≤ g) ∨ (0 ≤ n ∧ n ≤ 1099511627776 ∧ 0 ≤ g ∧ ¬ g ≤ 3) ∨ (0 ≤ n ∧ n ≤ 1099511627776 ∧ 0 ≤ g ∧ g ≤ 3 ∧ ¬ 0 < n ∧ ¬ g = 0) ∨
      (0 ≤ n ∧ n ≤ 1099511627776 ∧ 0 ≤ g ∧ g ≤ 3 ∧ ¬ 0 < n ∧ g = 0) ∨ (0 ≤ n ∧ n ≤ 1099511627776 ∧ 0 ≤ g ∧ g ≤ 3 ∧ 0 < n ∧ g = 0) ∨ (0 ≤ n ∧ n ≤ 1099511627776 ∧ 0 ≤ g ∧ g ≤ 3 ∧ 0 < n ∧ ¬ g = 0) := by omega
  rcases hc with h1 | ⟨h1, h2⟩ | ⟨h1, h2, h3⟩ | ⟨h1, h2, h3, h4⟩ | ⟨h1, h2, h3, h4, h5, h6⟩ | ⟨h1, h2, h3, h4, h5, rfl⟩ | ⟨h1, h2, h3, h4, h5, rfl⟩ | ⟨h1, h2, h3, h4, h5, h6⟩
  all_goals try
    (have HG : Hid (r = false) := HN.out (by unfold ldS; omega)
     go_wp2_with fail
     go_ret
     rw [HG.out]
     exact ⟨by first | rfl | simp | simp_all, HB.out⟩)
  all_goals
    go_wp2_with fail
    refine (r10right_any w1).mono ?_
    rintro e w2 ⟨rfl, hb2⟩
    have HB2 := hide (HB.out.trans (hb2.mono HB.out.size))
    have HP2 := hide (HP.out.below hb2 hpl)
    clear p0 p1 p2 p3 p4 q0 q1 q2 q3 hb2 hpl hql HP HQ HB
    have hpl := HP2.out.lt
    have p0 : w2.cell? ⟨pb, 0, none⟩ = some (.int .i64 n) := HP2.out.cell 0
    have p1 := HP2.out.cell 1
    have p2 : w2.cell? ⟨pb, 2, none⟩ = some (.int .i64 h) := HP2.out.cell 2
    have p3 : w2.cell? ⟨pb, 3, none⟩ = some (.bool p) := HP2.out.cell 3
    have p4 : w2.cell? ⟨pb, 4, none⟩ = some (.bool c) := HP2.out.cell 4
    simp at p1
    have hd : (¬ 0 ≤ h) ∨ (0 ≤ h ∧ ¬ h ≤ 1099511627776) ∨ (0 ≤ h ∧ h ≤ 1099511627776) := by omega
    rcases hd with k1 | ⟨k1, k2⟩ | ⟨k1, k2⟩
    all_goals try
      (have HG : Hid (r = false) := HN.out (by unfold ldS; omega)
       go_wp2_with fail
       go_ret
       rw [HG.out]
       exact ⟨by first | rfl | simp | simp_all, HB2.out⟩)
    all_goals
      cases p <;> cases c
    all_goals
      go_wp2_with fail
      go_ret
      refine ⟨congrArg (fun b => Ending.returned (Value.bool b)) (?_ : _ = r), HB2.out⟩
      rw [HRD.out, Bool.eq_iff_iff]
      simp [ldS] <;> omega
end Go.Proofs.Ytkobaidamdffmaa

namespace Go.Proofs.Ytkobaidamdffmaa
open Go.RowKit Go.Sort
set_option linter.unusedVariables false
set_option linter.unusedSimpArgs false

set_option maxHeartbeats 4000000 in
theorem keyright_any (xA eA : Option Addr) (xn xc en ec : Nat) (xf xt : Int) (d : CD) (w : World) :
    Calls Try.prog 42 #[.agg #[.slice xA xn xc, .int .i64 xf, .int .i64 xt, .slice eA en ec, .int .i64 d.s, .int .i64 d.n, .int .i64 d.g, .int .i64 d.h, .bool d.p, .bool d.c]] w fun e w' => e = .returned (.bool (decide (keyR xn xf xt))) ∧ Below w.heap.size w w' := by
  obtain ⟨r, hr⟩ : ∃ r : Bool, r = decide (keyR xn xf xt) := ⟨_, rfl⟩
  rw [← hr]
  have HRD := hide hr
  clear hr
  have HB : Hid (Below w.heap.size w (w.alloc (.cells #[.slice xA xn xc, .int .i64 xf, .int .i64 xt, .slice eA en ec, .int .i64 d.s, .int .i64 d.n, .int .i64 d.g, .int .i64 d.h, .bool d.p, .bool d.c] rcT))) := (Below.refl w.heap.size w).alloc (Nat.le_refl _) _
  have HP : Hid (Blk (w.alloc (.cells #[.slice xA xn xc, .int .i64 xf, .int .i64 xt, .slice eA en ec, .int .i64 d.s, .int .i64 d.n, .int .i64 d.g, .int .i64 d.h, .bool d.p, .bool d.c] rcT)) w.heap.size rcT #[.slice xA xn xc, .int .i64 xf, .int .i64 xt, .slice eA en ec, .int .i64 d.s, .int .i64 d.n, .int .i64 d.g, .int .i64 d.h, .bool d.p, .bool d.c]) := Blk.new w _ _
  go_enter Try.func42, Try.ntmps42
  go_upto_region 1 with fail
  change Code.wp _ _ _ _ (w.alloc (.cells #[.slice xA xn xc, .int .i64 xf, .int .i64 xt, .slice eA en ec, .int .i64 d.s, .int .i64 d.n, .int .i64 d.g, .int .i64 d.h, .bool d.p, .bool d.c] rcT))
  generalize (w.alloc (.cells #[.slice xA xn xc, .int .i64 xf, .int .i64 xt, .slice eA en ec, .int .i64 d.s, .int .i64 d.n, .int .i64 d.g, .int .i64 d.h, .bool d.p, .bool d.c] rcT)) = w1 at *
  obtain ⟨pb, hpb⟩ : ∃ pb, pb = w.heap.size := ⟨_, rfl⟩
  rw [← hpb] at HP ⊢
  clear hpb
  have hpl := HP.out.lt
  have c0 : w1.cell? ⟨pb, 0, none⟩ = some (.slice xA xn xc) := HP.out.cell 0
  have c1 : w1.cell? ⟨pb, 1, none⟩ = some (.int .i64 xf) := HP.out.cell 1
  have c2 : w1.cell? ⟨pb, 2, none⟩ = some (.int .i64 xt) := HP.out.cell 2
  have c3 : w1.cell? ⟨pb, 3, none⟩ = some (.slice eA en ec) := HP.out.cell 3
  have c4 : w1.cell? ⟨pb, 4, none⟩ = some (.int .i64 d.s) := HP.out.cell 4
  have c5 : w1.cell? ⟨pb, 5, none⟩ = some (.int .i64 d.n) := HP.out.cell 5
  have c6 : w1.cell? ⟨pb, 6, none⟩ = some (.int .i64 d.g) := HP.out.cell 6
  have c7 : w1.cell? ⟨pb, 7, none⟩ = some (.int .i64 d.h) := HP.out.cell 7
  have c8 : w1.cell? ⟨pb, 8, none⟩ = some (.bool d.p) := HP.out.cell 8
  have c9 : w1.cell? ⟨pb, 9, none⟩ = some (.bool d.c) := HP.out.cell 9
  by_cases h1 : xn ≤ 1048576
  · have h2 : (xn : Int) ≤ 1048576 := by omega
    go_wp2_with fail
    refine (rgood_any xf xt w1).mono ?_
    rintro e w2 ⟨rfl, hb2⟩
    have HG : Hid (r = decide (Win.mk xf xt).good) := by rw [Hid, HRD.out]; unfold keyR; simp [h1]
    have HB2 := hide (HB.out.trans (hb2.mono HB.out.size))
    rw [← HG.out]
    clear c0 c1 c2 c3 c4 c5 c6 c7 c8 c9 hb2 HP hpl
    go_wp2_with fail
    go_ret
    exact ⟨rfl, HB2.out⟩
  · have h2 : ¬ (xn : Int) ≤ 1048576 := by omega
    have HG : Hid (r = false) := by rw [Hid, HRD.out]; unfold keyR; simp [h1]
    go_wp2_with fail
    go_ret
    rw [HG.out]
    exact ⟨by first | rfl | simp | (simp; omega), HB.out⟩

set_option maxHeartbeats 8000000 in
theorem right_any (xA eA : Option Addr) (xn xc en ec : Nat) (xf xt : Int) (d : CD) (hen : d.b.length = en) (w : World) :
    Calls Try.prog 28 #[.agg #[.slice xA xn xc, .int .i64 xf, .int .i64 xt, .slice eA en ec, .int .i64 d.s, .int .i64 d.n, .int .i64 d.g, .int .i64 d.h, .bool d.p, .bool d.c]] w fun e w' => e = .returned (.bool (decide (keyR xn xf xt ∧ d.right))) ∧ Below w.heap.size w w' := by
  obtain ⟨r, hr⟩ : ∃ r : Bool, r = decide (keyR xn xf xt ∧ d.right) := ⟨_, rfl⟩
  rw [← hr]
  have HRD := hide hr
  have HEN := hide hen
  clear hr hen
  have HB : Hid (Below w.heap.size w (w.alloc (.cells #[.slice xA xn xc, .int .i64 xf, .int .i64 xt, .slice eA en ec, .int .i64 d.s, .int .i64 d.n, .int .i64 d.g, .int .i64 d.h, .bool d.p, .bool d.c] rcT))) := (Below.refl w.heap.size w).alloc (Nat.le_refl _) _
  have HP : Hid (Blk (w.alloc (.cells #[.slice xA xn xc, .int .i64 xf, .int .i64 xt, .slice eA en ec, .int .i64 d.s, .int .i64 d.n, .int .i64 d.g, .int .i64 d.h, .bool d.p, .bool d.c] rcT)) w.heap.size rcT #[.slice xA xn xc, .int .i64 xf, .int .i64 xt, .slice eA en ec, .int .i64 d.s, .int .i64 d.n, .int .i64 d.g, .int .i64 d.h, .bool d.p, .bool d.c]) := Blk.new w _ _
  go_enter Try.func28, Try.ntmps28
  go_upto_region 1 with fail
  change Code.wp _ _ _ _ (w.alloc (.cells #[.slice xA xn xc, .int .i64 xf, .int .i64 xt, .slice eA en ec, .int .i64 d.s, .int .i64 d.n, .int .i64 d.g, .int .i64 d.h, .bool d.p, .bool d.c] rcT))
  generalize (w.alloc (.cells #[.slice xA xn xc, .int .i64 xf, .int .i64 xt, .slice eA en ec, .int .i64 d.s, .int .i64 d.n, .int .i64 d.g, .int .i64 d.h, .bool d.p, .bool d.c] rcT)) = w1 at *
  obtain ⟨pb, hpb⟩ : ∃ pb, pb = w.heap.size := ⟨_, rfl⟩
  rw [← hpb] at HP ⊢
  clear hpb
  have hpl := HP.out.lt
  have c0 : w1.cell? ⟨pb, 0, none⟩ = some (.slice xA xn xc) := HP.out.cell 0
  have c1 : w1.cell? ⟨pb, 1, none⟩ = some (.int .i64 xf) := HP.out.cell 1
  have c2 : w1.cell? ⟨pb, 2, none⟩ = some (.int .i64 xt) := HP.out.cell 2
  have c3 : w1.cell? ⟨pb, 3, none⟩ = some (.slice eA en ec) := HP.out.cell 3
  have c4 : w1.cell? ⟨pb, 4, none⟩ = some (.int .i64 d.s) := HP.out.cell 4
  have c5 : w1.cell? ⟨pb, 5, none⟩ = some (.int .i64 d.n) := HP.out.cell 5
  have c6 : w1.cell? ⟨pb, 6, none⟩ = some (.int .i64 d.g) := HP.out.cell 6
  have c7 : w1.cell? ⟨pb, 7, none⟩ = some (.int .i64 d.h) := HP.out.cell 7
  have c8 : w1.cell? ⟨pb, 8, none⟩ = some (.bool d.p) := HP.out.cell 8
  have c9 : w1.cell? ⟨pb, 9, none⟩ = some (.bool d.c) := HP.out.cell 9
  go_wp2_with fail
  refine (keyright_any xA eA xn xc en ec xf xt d w1).mono ?_
  rintro e w2 ⟨rfl, hb2⟩
  have HB2 := hide (HB.out.trans (hb2.mono HB.out.size))
  have HP2 := hide (HP.out.below hb2 hpl)
  clear c0 c1 c2 c3 c4 c5 c6 c7 c8 c9 hb2 HP HB hpl
  have hpl := HP2.out.lt
  have c0 : w2.cell? ⟨pb, 0, none⟩ = some (.slice xA xn xc) := HP2.out.cell 0
  have c1 : w2.cell? ⟨pb, 1, none⟩ = some (.int .i64 xf) := HP2.out.cell 1
  have c2 : w2.cell? ⟨pb, 2, none⟩ = some (.int .i64 xt) := HP2.out.cell 2
  have c3 : w2.cell? ⟨pb, 3, none⟩ = some (.slice eA en ec) := HP2.out.cell 3
  have c4 : w2.cell? ⟨pb, 4, none⟩ = some (.int .i64 d.s) := HP2.out.cell 4
  have c5 : w2.cell? ⟨pb, 5, none⟩ = some (.int .i64 d.n) := HP2.out.cell 5
  have c6 : w2.cell? ⟨pb, 6, none⟩ = some (.int .i64 d.g) := HP2.out.cell 6
  have c7 : w2.cell? ⟨pb, 7, none⟩ = some (.int .i64 d.h) := HP2.out.cell 7
  have c8 : w2.cell? ⟨pb, 8, none⟩ = some (.bool d.p) := HP2.out.cell 8
  have c9 : w2.cell? ⟨pb, 9, none⟩ = some (.bool d.c) := HP2.out.cell 9
  by_cases h0 : keyR xn xf xt
  · rw [decide_eq_true h0]
    have HK := hide h0
    clear h0
    by_cases h1 : en ≤ 1048576
    · have h2 : (en : Int) ≤ 1048576 := by omega
      go_wp2_with fail
      refine (rtime_any d.s w2).mono ?_
      rintro e w3 ⟨rfl, hb3⟩
      have HB3 := hide (HB2.out.trans (hb3.mono HB2.out.size))
      have HP3 := hide (HP2.out.below hb3 hpl)
      clear c0 c1 c2 c3 c4 c5 c6 c7 c8 c9 hb3 HP2 HB2 hpl
      have hpl := HP3.out.lt
      have c0 : w3.cell? ⟨pb, 0, none⟩ = some (.slice xA xn xc) := HP3.out.cell 0
      have c1 : w3.cell? ⟨pb, 1, none⟩ = some (.int .i64 xf) := HP3.out.cell 1
      have c2 : w3.cell? ⟨pb, 2, none⟩ = some (.int .i64 xt) := HP3.out.cell 2
      have c3 : w3.cell? ⟨pb, 3, none⟩ = some (.slice eA en ec) := HP3.out.cell 3
      have c4 : w3.cell? ⟨pb, 4, none⟩ = some (.int .i64 d.s) := HP3.out.cell 4
      have c5 : w3.cell? ⟨pb, 5, none⟩ = some (.int .i64 d.n) := HP3.out.cell 5
      have c6 : w3.cell? ⟨pb, 6, none⟩ = some (.int .i64 d.g) := HP3.out.cell 6
      have c7 : w3.cell? ⟨pb, 7, none⟩ = some (.int .i64 d.h) := HP3.out.cell 7
      have c8 : w3.cell? ⟨pb, 8, none⟩ = some (.bool d.p) := HP3.out.cell 8
      have c9 : w3.cell? ⟨pb, 9, none⟩ = some (.bool d.c) := HP3.out.cell 9
      by_cases h3 : 0 ≤ d.s ∧ d.s ≤ 1048576
      · rw [decide_eq_true h3]
        have HT := hide h3
        clear h3
        go_wp2_with fail
        refine (loads_any d.n d.g d.h d.p d.c w3).mono ?_
        rintro e w4 ⟨rfl, hb4⟩
        have HG : Hid (r = decide (ldS d.n d.g d.h d.p d.c)) := by
          rw [Hid, HRD.out, Bool.eq_iff_iff, decide_eq_true_iff, decide_eq_true_iff]
          unfold CD.right
          rw [HEN.out]
          exact ⟨fun h => h.2.2.2, fun h => ⟨HK.out, h1, HT.out, h⟩⟩
        have HB4 := hide (HB3.out.trans (hb4.mono HB3.out.size))
        rw [← HG.out]
        clear c0 c1 c2 c3 c4 c5 c6 c7 c8 c9 hb4 HP3 HB3 hpl
        go_wp2_with fail
        go_ret
        exact ⟨rfl, HB4.out⟩
      · rw [decide_eq_false h3]
        have HG : Hid (r = false) := by rw [Hid, HRD.out]; exact decide_eq_false (fun h => h3 h.2.2.1)
        clear h3
        go_wp2_with fail
        go_ret
        rw [HG.out]
        exact ⟨rfl, HB3.out⟩
    · have h2 : ¬ (en : Int) ≤ 1048576 := by omega
      have HG : Hid (r = false) := by rw [Hid, HRD.out]; exact decide_eq_false (fun h => h1 (by rw [← HEN.out]; exact h.2.1))
      go_wp2_with fail
      go_ret
      rw [HG.out]
      exact ⟨by first | rfl | simp | (simp; omega), HB2.out⟩
  · rw [decide_eq_false h0]
    have HG : Hid (r = false) := by rw [Hid, HRD.out]; exact decide_eq_false (fun h => h0 h.1)
    clear h0
    go_wp2_with fail
    go_ret
    rw [HG.out]
    exact ⟨rfl, HB2.out⟩
end Go.Proofs.Ytkobaidamdffmaa
