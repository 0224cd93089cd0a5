/- A tape in memory; bytes.Clone, Bytes, Len. -/
import Derived.Test.YtlllocfcljgacaaJour2
namespace Go.Proofs.Ytlllocfcljgacaa
open Go.RowKit
set_option linter.unusedVariables false
set_option linter.unusedSimpArgs false

abbrev nT : Nat := 3
def nums (E : List Int) : List Value := E.flatMap fun n => [.int .i64 n]
/-- At block b lies a tape of capacity c: its bytes X, its records' ends E, sf of it safe. -/
def JR (w : World) (base b : Nat) (bv ev : Value) (c : Int) (X E : List Int) (sf : Int) : Prop :=
  Blk w b jT #[.int .i64 c, bv, ev, .int .i64 sf] ∧ Own w base bT 1 bv X.length (bys X) ∧ Own w base nT 1 ev E.length (nums E)

section
variable {w w' : World} {base b : Nat} {bv ev : Value} {c sf : Int} {X E : List Int}
theorem JR.below (h : JR w base b bv ev c X E sf) (hb : Below w.heap.size w w') : JR w' base b bv ev c X E sf := ⟨h.1.below hb h.1.lt, h.2.1.below hb, h.2.2.below hb⟩
theorem JR.alloc (h : JR w base b bv ev c X E sf) (o : Obj) : JR (w.alloc o) base b bv ev c X E sf := h.below ((Below.refl _ _).alloc (Nat.le_refl _) o)
theorem JR.drewN (h : JR w base b bv ev c X E sf) (k : Nat) : JR (w.drewN k) base b bv ev c X E sf := h
theorem JR.open (h : JR w base b bv ev c X E sf) : w.cell? ⟨b, 0, none⟩ = some (.int .i64 c) ∧ w.cell? ⟨b, 1, none⟩ = some bv ∧ w.cell? ⟨b, 2, none⟩ = some ev ∧ w.cell? ⟨b, 3, none⟩ = some (.int .i64 sf) ∧
    w.frozen? ⟨b, 1, none⟩ = false ∧ w.frozen? ⟨b, 2, none⟩ = false ∧ w.frozen? ⟨b, 3, none⟩ = false ∧ b < w.heap.size :=
  ⟨h.1.cell 0, h.1.cell 1, h.1.cell 2, h.1.cell 3, h.1.frozen 1, h.1.frozen 2, h.1.frozen 3, h.1.lt⟩
theorem JR.new (w : World) (base : Nat) (c : Int) : JR (w.alloc (.cells #[.int .i64 c, .slice none 0 0, .slice none 0 0, .int .i64 0] jT)) base w.heap.size (.slice none 0 0) (.slice none 0 0) c [] [] 0 :=
  ⟨Blk.new w _ _, Own.nil _ _ _ _, Own.nil _ _ _ _⟩
end

set_option maxHeartbeats 2000000 in
theorem bclone_any (v : Value) (D : List Int) (n B : Nat) (w : World) (hs : Sl w B v 1 n (bys D)) (hD : D.length = n) (hn : n ≤ 140737488355328) (hB : B ≤ w.heap.size) :
    Calls Try.prog 27 #[v] w fun e w' => ∃ u, e = .returned u ∧ Own w' w.heap.size bT 1 u n (bys D) ∧ Below w.heap.size w w' := by
  obtain ⟨A, c, rfl, hnc⟩ := hs.form
  have HS := hide hs
  have HD := hide hD
  clear hs hD
  cases A with
  | none =>
    have hn0 : n = 0 := by
      have h := HS.out.inv
      by_cases h9 : 0 < n
      · obtain ⟨ad, h7, _⟩ := h.2.2.2 h9
        cases h7
      · omega
    subst hn0
    have HD0 : Hid (D = []) := List.length_eq_zero_iff.1 HD.out
    have hnil : ∀ W : World, (binOp .eql 23 (.slice none 0 c) (.slice none 0 0)).run Try.prog W = .ok (.bool true) W := fun W => by rfl
    go_enter Try.func27, Try.ntmps27
    go_wp2_with fail
    go_ret
    exact ⟨_, rfl, by rw [HD0.out]; exact Own.nil _ _ _ _, Below.refl _ _⟩
  | some ad =>
    have hnil : ∀ W : World, (binOp .eql 23 (.slice (some ad) n c) (.slice none 0 0)).run Try.prog W = .ok (.bool false) W := fun W => by rfl
    go_enter Try.func27, Try.ntmps27
    go_wp2_with (at_builtin; refine wpList_app rfl tyB (.tmp 5) (.tmp 6) rfl w.heap.size (n := 0) (m := n) (B := B) (xs := []) (news := bys D) rfl rfl ?c1 ?c2 (bys_ok D) (by omega) (by omega) (by simp) ?_)
    case c1 => exact Own.new w w.heap.size #[] (Nat.le_refl _) (by omega) rfl
    case c2 => exact HS.out.alloc hB _
    intro v1 w1 ha
    have HO : Hid (Own w1 w.heap.size bT 1 v1 n (bys D)) := by simpa [Hid] using ha.own
    have HB1 := hide (((Below.refl w.heap.size w).alloc (Nat.le_refl _) _).trans (ha.fr.below (by simp) (fun k hk h => by have := own_eq h; omega)))
    clear ha
    go_wp2_with fail
    go_ret
    exact ⟨_, rfl, HO.out, HB1.out⟩

theorem jlen_any (w : World) (base b : Nat) (bv ev : Value) (c sf : Int) (X E : List Int) (h : JR w base b bv ev c X E sf) : Calls Try.prog 13 #[.pointer (some ⟨b, 0, none⟩)] w fun e w' => e = .returned (.int .i64 E.length) ∧ w = w' := by
  obtain ⟨eA, ec, rfl, _⟩ := h.2.2.sl.form
  obtain ⟨c0, c1, c2, c3, f1, f2, f3, hlt⟩ := h.open
  clear h
  go_enter Try.func13, Try.ntmps13
  go_wp2_with fail
  go_ret
  exact ⟨rfl, rfl⟩

theorem jbytes_any (w : World) (base b : Nat) (bv ev : Value) (c sf : Int) (X E : List Int) (h : JR w base b bv ev c X E sf) (hX : X.length ≤ 140737488355328) : Calls Try.prog 12 #[.pointer (some ⟨b, 0, none⟩)] w fun e w' => ∃ u, e = .returned u ∧ Own w' w.heap.size bT 1 u X.length (bys X) ∧ Below w.heap.size w w' := by
  obtain ⟨bA, bc, rfl, _⟩ := h.2.1.sl.form
  obtain ⟨c0, c1, c2, c3, f1, f2, f3, hlt⟩ := h.open
  have H := hide h
  clear h
  go_enter Try.func12, Try.ntmps12
  go_wp2_with fail
  refine (bclone_any _ X _ _ w H.out.2.1.sl rfl hX (Nat.le_refl _)).mono ?_
  rintro e w1 ⟨u, rfl, ho, hb⟩
  have HO := hide (And.intro ho hb)
  clear ho hb
  go_wp2_with fail
  go_ret
  exact ⟨_, rfl, HO.out.1, HO.out.2⟩

end Go.Proofs.Ytlllocfcljgacaa
