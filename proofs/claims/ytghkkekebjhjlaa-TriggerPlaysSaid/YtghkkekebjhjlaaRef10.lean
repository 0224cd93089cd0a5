/- What the reference's machine of layer 10 does. -/
import Derived.Test.YtghkkekebjhjlaaLaw10d
import Derived.Test.YtghkkekebjhjlaaCut
namespace Go.Proofs.Ytghkkekebjhjlaa
open Go.RowKit
set_option linter.unusedVariables false
set_option linter.unusedSimpArgs false

abbrev rT : Nat := 50
abbrev rI : Nat := 74
theorem tyR10 : SlTy Try.prog 48 rI 3 24 (.agg #[.int .i64 0, .int .i64 0, .bool false]) := ⟨Try.underlying48, info_parts (by kernel_rfl), rfl, by omega⟩
/-- At block b lies the reference's machine; v its panes, D. -/
def RR (w : World) (base b : Nat) (v : Value) (D : List Inf) (s : Spc) (m : Mst) : Prop :=
  Blk w b rT #[.int .i64 s.e, .int .i64 s.l, .int .i64 s.t, .bool s.a, v, .int .i64 m.fr, .bool m.ps, .bool m.cl] ∧ Own w base rI 3 v D.length (infs D)
abbrev RFr (b : Nat) (v : Value) (w w' : World) : Prop := Fr (fun k => k = b ∨ v.ownBlock = some k) w w'

section
variable {w w' : World} {base b : Nat} {v : Value} {D : List Inf} {s : Spc} {m : Mst}
theorem RR.ne (h : RR w base b v D s m) : v.ownBlock ≠ some b := h.2.ne h.1 (by decide)
theorem RR.lt (h : RR w base b v D s m) : b < w.heap.size := h.1.lt
theorem RR.below (h : RR w base b v D s m) (hb : Below w.heap.size w w') : RR w' base b v D s m := ⟨h.1.below hb h.1.lt, h.2.below hb⟩
theorem RR.alloc (h : RR w base b v D s m) (o : Obj) : RR (w.alloc o) base b v D s m := h.below ((Below.refl _ _).alloc (Nat.le_refl _) o)
theorem RR.drew (h : RR w base b v D s m) : RR w.drew base b v D s m := h
theorem RR.drewN (h : RR w base b v D s m) (k : Nat) : RR (w.drewN k) base b v D s m := h
theorem RR.fr {S : Nat → Prop} (h : RR w base b v D s m) (hf : Fr S w w') (h1 : ¬ S b) (h2 : ∀ g, v.ownBlock = some g → ¬ S g) : RR w' base b v D s m := ⟨hf.blk h.1 h1, h.2.fr hf h2⟩
theorem RR.form (h : RR w base b v D s m) : ∃ A c, v = .slice A D.length c ∧ D.length ≤ c := h.2.sl.form
theorem RR.as {m' : Mst} (h : RR w base b v D s m) (h1 : m'.fr = m.fr) (h2 : m'.ps = m.ps) (h3 : m'.cl = m.cl) : RR w base b v D s m' := by
  unfold RR at *
  rw [h1, h2, h3]
  exact h
theorem RR.put5 (h : RR w base b v D s m) (x : Int) : RR (w.setCell ⟨b, 5, none⟩ (.int .i64 x)) base b v D s { m with fr := x } :=
  ⟨by simpa using h.1.put 5 (.int .i64 x), h.2.put h.ne _⟩
theorem RR.put6 (h : RR w base b v D s m) (x : Bool) : RR (w.setCell ⟨b, 6, none⟩ (.bool x)) base b v D s { m with ps := x } :=
  ⟨by simpa using h.1.put 6 (.bool x), h.2.put h.ne _⟩
theorem RR.put7 (h : RR w base b v D s m) (x : Bool) : RR (w.setCell ⟨b, 7, none⟩ (.bool x)) base b v D s { m with cl := x } :=
  ⟨by simpa using h.1.put 7 (.bool x), h.2.put h.ne _⟩
theorem RR.open (h : RR w base b v D s m) : w.cell? ⟨b, 0, none⟩ = some (.int .i64 s.e) ∧ w.cell? ⟨b, 1, none⟩ = some (.int .i64 s.l) ∧ w.cell? ⟨b, 2, none⟩ = some (.int .i64 s.t) ∧
    w.cell? ⟨b, 4, none⟩ = some v ∧ w.cell? ⟨b, 5, none⟩ = some (.int .i64 m.fr) ∧ w.cell? ⟨b, 6, none⟩ = some (.bool m.ps) ∧ w.cell? ⟨b, 7, none⟩ = some (.bool m.cl) ∧
    w.frozen? ⟨b, 5, none⟩ = false ∧ w.frozen? ⟨b, 6, none⟩ = false ∧ w.frozen? ⟨b, 7, none⟩ = false ∧ b < w.heap.size ∧ w.frozen? ⟨b, 4, none⟩ = false :=
  ⟨h.1.cell 0, h.1.cell 1, h.1.cell 2, h.1.cell 4, h.1.cell 5, h.1.cell 6, h.1.cell 7, h.1.frozen 5, h.1.frozen 6, h.1.frozen 7, h.1.lt, h.1.frozen 4⟩
end

def FRPost (w : World) (base b : Nat) (v : Value) (D : List Inf) (s : Spc) (m : Mst) (p : Inf) (e : Ending) (w' : World) : Prop :=
  ∃ u v', e = .returned u ∧ Own w' w.heap.size rI 3 u 1 (infs [p]) ∧ RR w' base b v' (D ++ [p]) s { m with fr := 0 } ∧ RFr b v w w'

set_option maxHeartbeats 4000000 in
theorem rfire_any (w : World) (base b : Nat) (v : Value) (D : List Inf) (s : Spc) (m : Mst) (t : Int) (la : Bool) (h : RR w base b v D s m) (hD : D.length ≤ 5864062014634) (hbase : base ≤ w.heap.size) :
    Calls Try.prog 32 #[.pointer (some ⟨b, 0, none⟩), .int .i64 t, .bool la] w (FRPost w base b v D s m ⟨D.length, t, la⟩) := by
  obtain ⟨A, c, rfl, hc⟩ := h.form
  obtain ⟨c0, c1, c2, c4, c5, c6, c7, f5, f6, f7, hlt, f4⟩ := h.open
  have H := hide h
  clear h
  go_enter Try.func32, Try.ntmps32
  go_wp2_with fail
  have HSL : Hid (∀ W : World, Sl (W.alloc (.cells #[.int .i64 D.length, .int .i64 t, .bool la] rI)) (W.heap.size + 1) (.slice (some ⟨W.heap.size, 0, none⟩) 1 1) 3 1 (infs [⟨D.length, t, la⟩])) := fun W =>
    Sl.of_own (Own.new (n := 1) (sz := 3) (e := rI) (base := 0) W #[.int .i64 D.length, .int .i64 t, .bool la] (by omega) (by omega) rfl) |>.mono (by simp)
  go_region_law (
    refine step_app rfl tyR10 (.tmp 20) (.tmp 22) rfl base (n := D.length) (m := 1) (B := w.heap.size + 2) (xs := infs D) (news := infs [⟨D.length, t, la⟩]) rfl rfl (by exact (((H.out.2.alloc _).alloc _).drew)) (by have h9 := (HSL.out (w.alloc (.cells #[.int .i64 D.length, .int .i64 t, .bool la] rI))).mono (B' := w.heap.size + 2) (by simp); simp only [World.size_alloc] at h9; exact h9) (infs_ok _) (by omega) (by omega) (by simp; omega) ?_
    intro v5 w5 ha5
    obtain ⟨A5, c5, rfl, hc5⟩ := ha5.own.sl.form
    have B5 : Blk w5 b rT #[.int .i64 s.e, .int .i64 s.l, .int .i64 s.t, .bool s.a, .slice A D.length c, .int .i64 m.fr, .bool m.ps, .bool m.cl] := ha5.fr.blk ((H.out.1.alloc _).alloc _) H.out.ne
    have k4 : w5.cell? ⟨b, 4, none⟩ = some (.slice A D.length c) := B5.cell 4
    have q4 := B5.frozen 4
    have klt := B5.lt)
  all_goals
    have P5 : Blk w5 w.heap.size rI #[.int .i64 D.length, .int .i64 t, .bool la] := ha5.fr.blk (S := fun k => (Value.slice A D.length c).ownBlock = some k) (((Blk.new w rI _).alloc _)) (fun h9 => by have := (H.out.2.lt _ h9).2; omega)
    have hz5 : w.heap.size + 2 ≤ w5.heap.size := by simpa using ha5.fr.size
    have ho5 : Own w5 base rI 3 (.slice A5 (D.length + 1) c5) (D ++ [(⟨D.length, t, la⟩ : Inf)]).length (infs (D ++ [⟨D.length, t, la⟩])) := by
      rw [show infs (D ++ [(⟨D.length, t, la⟩ : Inf)]) = infs D ++ infs [⟨D.length, t, la⟩] by simp [infs], List.length_append]
      exact ha5.own
    have R6 : RR (w5.setCell ⟨b, 4, none⟩ (.slice A5 (D.length + 1) c5)) base b (.slice A5 (D.length + 1) c5) (D ++ [⟨D.length, t, la⟩]) s m := ⟨by simpa using B5.put 4 (.slice A5 (D.length + 1) c5), ho5.put (ho5.ne B5 (by decide)) _⟩
    have P6 : Blk (w5.setCell ⟨b, 4, none⟩ (.slice A5 (D.length + 1) c5)) w.heap.size rI #[.int .i64 D.length, .int .i64 t, .bool la] := P5.far (show w.heap.size ≠ b by omega) _
    have hf5 : Fr (fun k => (Value.slice A D.length c).ownBlock = some k) ((w.alloc (.cells #[.int .i64 D.length, .int .i64 t, .bool la] rI)).alloc (.cells #[.int .i64 D.length, .int .i64 t, .bool la] rI)).drew w5 := ha5.fr
    have hf6 : RFr b (.slice A D.length c) w ((w.alloc (.cells #[.int .i64 D.length, .int .i64 t, .bool la] rI)).alloc (.cells #[.int .i64 D.length, .int .i64 t, .bool la] rI)).drew := (((Fr.refl _ w).alloc _).alloc _).drew
    have hf7 : RFr b (.slice A D.length c) w w5 := hf6.trans hf5 (fun _ _ h9 => Or.inr h9)
    have HF : Hid (RFr b (.slice A D.length c) w (w5.setCell ⟨b, 4, none⟩ (.slice A5 (D.length + 1) c5))) := hf7.put (.inl (.inl rfl)) _
    clear hf5 hf6 hf7
    have hz6 : w5.heap.size = (w5.setCell ⟨b, 4, none⟩ (.slice A5 (D.length + 1) c5)).heap.size := by simp
    generalize hW6 : w5.setCell ⟨b, 4, none⟩ (.slice A5 (D.length + 1) c5) = w6 at *
    clear hW6 k4 q4
    obtain ⟨d0, d1, d2, d4, d5, d6, d7, g5, g6, g7, hlt6, g4⟩ := R6.open
    obtain ⟨p0, p1, p2, p3⟩ := P6.three
    have HR6 := hide R6
    have HP6 := hide P6
    
    clear ha5 B5 P5 ho5 R6 P6
    go_wp2_with fail
    go_ret
    refine ⟨_, .slice A5 (D.length + 1) c5, rfl, ?_, ?_, ?_⟩
    · have ho := Own.new (n := 1) (sz := 3) (e := rI) (w6.setCell ⟨b, 5, none⟩ (.int .i64 0)) w.heap.size #[.int .i64 D.length, .int .i64 t, .bool la] (by simp; omega) (by omega) rfl
      simp only [World.size_setCell] at ho
      exact ho
    · exact (HR6.out.put5 0).alloc _
    · exact (HF.out.put (.inl (.inl rfl)) _).alloc _

end Go.Proofs.Ytghkkekebjhjlaa
