/- The law's key and cell (layer 15). Printed by genkl15.py. -/
import Derived.Test.YtkobaidamdffmaaQCellsDecodes12
import Derived.Test.YtkobaidamdffmaaQCellsDecodes06
import Derived.Deep.RegionHeld3

namespace Go.Proofs.Ytkobaidamdffmaa
open Go.RowKit Go.Sort
set_option linter.unusedVariables false
set_option linter.unusedSimpArgs false

set_option maxHeartbeats 4000000 in
theorem lkey_any (A : Option Addr) (n cc : Nat) (f t : Int) (a : Value) (s i g h : Int) (p c : Bool) (D : List Int) (B : Nat) (w : World) (hs : Sl w B (.slice A n cc) 1 n (bys D)) (hD : D.length = n) (hn : n ≤ 140737488355328) (hB : B ≤ w.heap.size) :
    Calls Try.prog 11 #[.agg #[.slice A n cc, .int .i64 f, .int .i64 t, a, .int .i64 s, .int .i64 i, .int .i64 g, .int .i64 h, .bool p, .bool c]] w fun e w' => ∃ u, e = .returned (.agg #[u, .int .i64 f, .int .i64 t]) ∧ Own w' w.heap.size bT 1 u n (bys D) ∧ Below w.heap.size w w' := by
  have HS := hide hs
  have HD := hide hD
  clear hs hD
  have HP0 : Hid (Blk ((w.alloc (.cells #[.slice A n cc, .int .i64 f, .int .i64 t, a, .int .i64 s, .int .i64 i, .int .i64 g, .int .i64 h, .bool p, .bool c] rcT)).alloc (.cells #[.slice none 0 0, .int .i64 0, .int .i64 0] keyT)) w.heap.size rcT #[.slice A n cc, .int .i64 f, .int .i64 t, a, .int .i64 s, .int .i64 i, .int .i64 g, .int .i64 h, .bool p, .bool c]) := (Blk.new w _ _).alloc _
  have HQ0 : Hid (Blk ((w.alloc (.cells #[.slice A n cc, .int .i64 f, .int .i64 t, a, .int .i64 s, .int .i64 i, .int .i64 g, .int .i64 h, .bool p, .bool c] rcT)).alloc (.cells #[.slice none 0 0, .int .i64 0, .int .i64 0] keyT)) (w.heap.size + 1) keyT #[.slice none 0 0, .int .i64 0, .int .i64 0]) := by
    have h9 := Blk.new (w.alloc (.cells #[.slice A n cc, .int .i64 f, .int .i64 t, a, .int .i64 s, .int .i64 i, .int .i64 g, .int .i64 h, .bool p, .bool c] rcT)) keyT #[.slice none 0 0, .int .i64 0, .int .i64 0]
    simpa [Hid] using h9
  have HBW : Hid (Below w.heap.size w ((w.alloc (.cells #[.slice A n cc, .int .i64 f, .int .i64 t, a, .int .i64 s, .int .i64 i, .int .i64 g, .int .i64 h, .bool p, .bool c] rcT)).alloc (.cells #[.slice none 0 0, .int .i64 0, .int .i64 0] keyT))) := ((Below.refl w.heap.size w).alloc (Nat.le_refl _) _).alloc (by simp) _
  go_enter Try.func11, Try.ntmps11
  go_upto_region 1 with fail
  have HP := hide HP0.out
  have HQ := hide HQ0.out
  clear HP0 HQ0
  change Code.wp _ _ _ _ ((w.alloc (.cells #[.slice A n cc, .int .i64 f, .int .i64 t, a, .int .i64 s, .int .i64 i, .int .i64 g, .int .i64 h, .bool p, .bool c] rcT)).alloc (.cells #[.slice none 0 0, .int .i64 0, .int .i64 0] keyT))
  generalize ((w.alloc (.cells #[.slice A n cc, .int .i64 f, .int .i64 t, a, .int .i64 s, .int .i64 i, .int .i64 g, .int .i64 h, .bool p, .bool c] rcT)).alloc (.cells #[.slice none 0 0, .int .i64 0, .int .i64 0] keyT)) = w1 at *
  obtain ⟨pb, hpb⟩ : ∃ pb, pb = w.heap.size := ⟨_, rfl⟩
  obtain ⟨qb, hqb⟩ : ∃ qb, qb = w.heap.size + 1 := ⟨_, rfl⟩
  have HW : Hid (w.heap.size ≤ pb ∧ w.heap.size ≤ qb) := by rw [hpb, hqb]; exact ⟨Nat.le_refl _, Nat.le_succ _⟩
  rw [← hqb] at HQ ⊢
  rw [← hpb] at HP ⊢
  have HS1 := hide (HS.out.below (HBW.out.mono hB))
  have hB1 : B ≤ w1.heap.size := Nat.le_trans hB HBW.out.size
  clear hpb hqb HS
  have hp := HP.out.lt
  have hq := HQ.out.lt
  have p0 : w1.cell? ⟨pb, 0, none⟩ = some (.slice A n cc) := HP.out.cell 0
  have p1 : w1.cell? ⟨pb, 1, none⟩ = some (.int .i64 f) := HP.out.cell 1
  have p2 : w1.cell? ⟨pb, 2, none⟩ = some (.int .i64 t) := HP.out.cell 2
  have p3 : w1.cell? ⟨pb, 3, none⟩ = some (a) := HP.out.cell 3
  have p4 : w1.cell? ⟨pb, 4, none⟩ = some (.int .i64 s) := HP.out.cell 4
  have p5 : w1.cell? ⟨pb, 5, none⟩ = some (.int .i64 i) := HP.out.cell 5
  have p6 : w1.cell? ⟨pb, 6, none⟩ = some (.int .i64 g) := HP.out.cell 6
  have p7 : w1.cell? ⟨pb, 7, none⟩ = some (.int .i64 h) := HP.out.cell 7
  have p8 : w1.cell? ⟨pb, 8, none⟩ = some (.bool p) := HP.out.cell 8
  have p9 : w1.cell? ⟨pb, 9, none⟩ = some (.bool c) := HP.out.cell 9
  have HE : Hid (∀ X : World, Own (X.alloc (.cells #[] bT)) X.heap.size bT 1 (.slice (some ⟨X.heap.size, 0, none⟩) 0 0) 0 (bys [])) := fun X => Own.new X X.heap.size #[] (Nat.le_refl _) (by omega) rfl
  have HFA : Hid (∀ (v5 : Value) (X w5 : World) (m : Nat) (xs : List Value), Below w1.heap.size w1 X → App X w1.heap.size bT 1 (.slice (some ⟨w1.heap.size, 0, none⟩) 0 0) m xs v5 w5 → Below w1.heap.size w1 w5) := fun v5 X w5 m xs hX ha =>
    hX.trans (ha.fr.below hX.size (fun k hk h => by have := own_eq h; omega))
  have HCS : Hid (∀ X : World, Below w1.heap.size w1 X → (X.cell? ⟨pb, 0, none⟩ = some (.slice A n cc) ∧ X.cell? ⟨pb, 1, none⟩ = some (.int .i64 f) ∧ X.cell? ⟨pb, 2, none⟩ = some (.int .i64 t) ∧ X.cell? ⟨pb, 3, none⟩ = some (a) ∧ X.cell? ⟨pb, 4, none⟩ = some (.int .i64 s) ∧ X.cell? ⟨pb, 5, none⟩ = some (.int .i64 i) ∧ X.cell? ⟨pb, 6, none⟩ = some (.int .i64 g) ∧ X.cell? ⟨pb, 7, none⟩ = some (.int .i64 h) ∧ X.cell? ⟨pb, 8, none⟩ = some (.bool p) ∧ X.cell? ⟨pb, 9, none⟩ = some (.bool c)) ∧ (X.frozen? ⟨qb, 0, none⟩ = false ∧ X.frozen? ⟨qb, 1, none⟩ = false ∧ X.frozen? ⟨qb, 2, none⟩ = false) ∧ (X.cell? ⟨qb, 0, none⟩ = some (.slice none 0 0) ∧ X.cell? ⟨qb, 1, none⟩ = some (.int .i64 0) ∧ X.cell? ⟨qb, 2, none⟩ = some (.int .i64 0)) ∧ qb < X.heap.size ∧ pb < X.heap.size) := by
    intro X hX
    have k1 := HP.out.below hX hp
    have k2 := HQ.out.below hX hq
    exact ⟨⟨k1.cell 0, k1.cell 1, k1.cell 2, k1.cell 3, k1.cell 4, k1.cell 5, k1.cell 6, k1.cell 7, k1.cell 8, k1.cell 9⟩, ⟨k2.frozen 0, k2.frozen 1, k2.frozen 2⟩, ⟨k2.cell 0, k2.cell 1, k2.cell 2⟩, k2.lt, k1.lt⟩
  have HPQ : Hid (pb ≠ qb) := HP.out.apart HQ.out (by decide)
  have HC5 : Hid (∀ X : World, Fr (fun k => k = qb) w1 X → X.cell? ⟨pb, 0, none⟩ = some (.slice A n cc) ∧ X.cell? ⟨pb, 1, none⟩ = some (.int .i64 f) ∧ X.cell? ⟨pb, 2, none⟩ = some (.int .i64 t) ∧ X.cell? ⟨pb, 3, none⟩ = some (a) ∧ X.cell? ⟨pb, 4, none⟩ = some (.int .i64 s) ∧ X.cell? ⟨pb, 5, none⟩ = some (.int .i64 i) ∧ X.cell? ⟨pb, 6, none⟩ = some (.int .i64 g) ∧ X.cell? ⟨pb, 7, none⟩ = some (.int .i64 h) ∧ X.cell? ⟨pb, 8, none⟩ = some (.bool p) ∧ X.cell? ⟨pb, 9, none⟩ = some (.bool c)) := fun X hX => by
    have k1 := hX.blk HP.out HPQ.out
    exact ⟨k1.cell 0, k1.cell 1, k1.cell 2, k1.cell 3, k1.cell 4, k1.cell 5, k1.cell 6, k1.cell 7, k1.cell 8, k1.cell 9⟩
  go_region_held3 (fun X : World => X.cell? ⟨pb, 0, none⟩ = some (.slice A n cc) ∧ X.cell? ⟨pb, 1, none⟩ = some (.int .i64 f) ∧ X.cell? ⟨pb, 2, none⟩ = some (.int .i64 t) ∧ X.cell? ⟨pb, 3, none⟩ = some (a) ∧ X.cell? ⟨pb, 4, none⟩ = some (.int .i64 s) ∧ X.cell? ⟨pb, 5, none⟩ = some (.int .i64 i) ∧ X.cell? ⟨pb, 6, none⟩ = some (.int .i64 g) ∧ X.cell? ⟨pb, 7, none⟩ = some (.int .i64 h) ∧ X.cell? ⟨pb, 8, none⟩ = some (.bool p) ∧ X.cell? ⟨pb, 9, none⟩ = some (.bool c)) (first
      | with_reducible exact HC5.out _ (((hf5.put (p := ⟨qb, 0, none⟩) (.inl rfl) _).put (p := ⟨qb, 1, none⟩) (.inl rfl) _).put (p := ⟨qb, 2, none⟩) (.inl rfl) _)
      | with_reducible exact HC5.out _ hf5
      | exact ⟨p0, p1, p2, p3, p4, p5, p6, p7, p8, p9⟩
      | exact ⟨(HP.out.alloc _).cell 0, (HP.out.alloc _).cell 1, (HP.out.alloc _).cell 2, (HP.out.alloc _).cell 3, (HP.out.alloc _).cell 4, (HP.out.alloc _).cell 5, (HP.out.alloc _).cell 6, (HP.out.alloc _).cell 7, (HP.out.alloc _).cell 8, (HP.out.alloc _).cell 9⟩) (first
    | (refine step_app rfl tyB (.tmp 3) (.tmp 5) rfl w1.heap.size (n := 0) (m := n) (B := B) (xs := bys []) (news := bys D) rfl rfl (by first | exact (HE.out _).drew | exact HE.out _) (by exact HS1.out.below ((((Below.refl w1.heap.size w1).drewN 1).alloc (Nat.le_refl _) _).mono hB1)) (bys_ok D) (by omega) (by omega) (by simp) ?_; intro v5 w5 ha5
       have ho5 : Own w5 w1.heap.size bT 1 v5 n (bys D) := by simpa [bys] using ha5.own
       have hb5 : Below w1.heap.size w1 w5 := HFA.out v5 _ w5 _ _ (by first | exact ((Below.refl w1.heap.size w1).alloc (Nat.le_refl _) _).drewN 1 | exact ((Below.refl w1.heap.size w1).drewN 1).alloc (Nat.le_refl _) _) ha5
       obtain ⟨uA, uc, rfl, huc⟩ := ho5.sl.form
       obtain ⟨_, ⟨y0, y1, y2⟩, ⟨q0, q1, q2⟩, hq5, hp5⟩ := HCS.out w5 hb5
       have hf5 : Fr (fun k => k = qb) w1 w5 := Fr.of_below hb5))
  all_goals
    have HO5 := hide (ho5.lower HBW.out.size)
    have HB5 := hide (HBW.out.trans (hb5.mono HBW.out.size))
    have HQ5 := hide (HQ.out.below hb5 hq)
    have HNE : Hid ((Value.slice uA n uc).ownBlock ≠ some qb) := ho5.ne HQ5.out (by decide)
    clear ho5 hb5 ha5
    have HR9 : Hid (Own (((w5.setCell ⟨qb, 0, none⟩ (.slice uA n uc)).setCell ⟨qb, 1, none⟩ (.int .i64 f)).setCell ⟨qb, 2, none⟩ (.int .i64 t)) w.heap.size bT 1 (.slice uA n uc) n (bys D) ∧
        Blk (((w5.setCell ⟨qb, 0, none⟩ (.slice uA n uc)).setCell ⟨qb, 1, none⟩ (.int .i64 f)).setCell ⟨qb, 2, none⟩ (.int .i64 t)) qb keyT #[.slice uA n uc, .int .i64 f, .int .i64 t] ∧
        Below w.heap.size w (((w5.setCell ⟨qb, 0, none⟩ (.slice uA n uc)).setCell ⟨qb, 1, none⟩ (.int .i64 f)).setCell ⟨qb, 2, none⟩ (.int .i64 t))) := by
      refine ⟨?_, ?_, ?_⟩
      · exact (((HO5.out.put (p := ⟨qb, 0, none⟩) HNE.out _).put (p := ⟨qb, 1, none⟩) HNE.out _).put (p := ⟨qb, 2, none⟩) HNE.out _)
      · exact (((HQ5.out.put 0 _).put 1 _).put 2 _)
      · exact ((((Fr.of_below HB5.out : Fr nob w w5).put (p := ⟨qb, 0, none⟩) (.inr HW.out.2) _).put (p := ⟨qb, 1, none⟩) (.inr HW.out.2) _).put (p := ⟨qb, 2, none⟩) (.inr HW.out.2) _).below (Nat.le_refl _) (fun k _ h => h)
    clear y0 q0 y1 q1 y2 q2 hq5 hp5 hf5 p0 p1 p2 p3 p4 p5 p6 p7 p8 p9 HFA HCS HC5 HE
    go_wp2_with fail
    change bodyPost _ _ _ _ _ (((w5.setCell ⟨qb, 0, none⟩ (.slice uA n uc)).setCell ⟨qb, 1, none⟩ (.int .i64 f)).setCell ⟨qb, 2, none⟩ (.int .i64 t))
    generalize (((w5.setCell ⟨qb, 0, none⟩ (.slice uA n uc)).setCell ⟨qb, 1, none⟩ (.int .i64 f)).setCell ⟨qb, 2, none⟩ (.int .i64 t)) = w9 at *
    have c0 : w9.cell? ⟨qb, 0, none⟩ = some (.slice uA n uc) := HR9.out.2.1.cell 0
    have c1 : w9.cell? ⟨qb, 1, none⟩ = some (.int .i64 f) := HR9.out.2.1.cell 1
    have c2 : w9.cell? ⟨qb, 2, none⟩ = some (.int .i64 t) := HR9.out.2.1.cell 2
    have hres : Try.f11.results = #[.cell 2 keyT] := by kernel_rfl
    refine bodyPost_ret (v := .agg #[.slice uA n uc, .int .i64 f, .int .i64 t]) ?_ rfl ⟨_, rfl, HR9.out.1, HR9.out.2.2⟩
    simp [results, hres, go_sem, c0, c1, c2]

set_option maxHeartbeats 4000000 in
theorem lcell_any (A : Option Addr) (n cc : Nat) (f t : Int) (k : Value) (s i g h : Int) (p c : Bool) (D : List Int) (B : Nat) (w : World) (hs : Sl w B (.slice A n cc) 1 n (bys D)) (hD : D.length = n) (hn : n ≤ 140737488355328) (hB : B ≤ w.heap.size) :
    Calls Try.prog 12 #[.agg #[k, .int .i64 f, .int .i64 t, .slice A n cc, .int .i64 s, .int .i64 i, .int .i64 g, .int .i64 h, .bool p, .bool c]] w fun e w' => ∃ u, e = .returned (.agg #[u, .int .i64 s, .int .i64 i, .int .i64 g, .int .i64 h, .bool p, .bool c]) ∧ Own w' w.heap.size bT 1 u n (bys D) ∧ Below w.heap.size w w' := by
  have HS := hide hs
  have HD := hide hD
  clear hs hD
  have HP0 : Hid (Blk ((w.alloc (.cells #[k, .int .i64 f, .int .i64 t, .slice A n cc, .int .i64 s, .int .i64 i, .int .i64 g, .int .i64 h, .bool p, .bool c] rcT)).alloc (.cells #[.slice none 0 0, .int .i64 0, .int .i64 0, .int .i64 0, .int .i64 0, .bool false, .bool false] cvT)) w.heap.size rcT #[k, .int .i64 f, .int .i64 t, .slice A n cc, .int .i64 s, .int .i64 i, .int .i64 g, .int .i64 h, .bool p, .bool c]) := (Blk.new w _ _).alloc _
  have HQ0 : Hid (Blk ((w.alloc (.cells #[k, .int .i64 f, .int .i64 t, .slice A n cc, .int .i64 s, .int .i64 i, .int .i64 g, .int .i64 h, .bool p, .bool c] rcT)).alloc (.cells #[.slice none 0 0, .int .i64 0, .int .i64 0, .int .i64 0, .int .i64 0, .bool false, .bool false] cvT)) (w.heap.size + 1) cvT #[.slice none 0 0, .int .i64 0, .int .i64 0, .int .i64 0, .int .i64 0, .bool false, .bool false]) := by
    have h9 := Blk.new (w.alloc (.cells #[k, .int .i64 f, .int .i64 t, .slice A n cc, .int .i64 s, .int .i64 i, .int .i64 g, .int .i64 h, .bool p, .bool c] rcT)) cvT #[.slice none 0 0, .int .i64 0, .int .i64 0, .int .i64 0, .int .i64 0, .bool false, .bool false]
    simpa [Hid] using h9
  have HBW : Hid (Below w.heap.size w ((w.alloc (.cells #[k, .int .i64 f, .int .i64 t, .slice A n cc, .int .i64 s, .int .i64 i, .int .i64 g, .int .i64 h, .bool p, .bool c] rcT)).alloc (.cells #[.slice none 0 0, .int .i64 0, .int .i64 0, .int .i64 0, .int .i64 0, .bool false, .bool false] cvT))) := ((Below.refl w.heap.size w).alloc (Nat.le_refl _) _).alloc (by simp) _
  go_enter Try.func12, Try.ntmps12
  go_upto_region 1 with fail
  have HP := hide HP0.out
  have HQ := hide HQ0.out
  clear HP0 HQ0
  change Code.wp _ _ _ _ ((w.alloc (.cells #[k, .int .i64 f, .int .i64 t, .slice A n cc, .int .i64 s, .int .i64 i, .int .i64 g, .int .i64 h, .bool p, .bool c] rcT)).alloc (.cells #[.slice none 0 0, .int .i64 0, .int .i64 0, .int .i64 0, .int .i64 0, .bool false, .bool false] cvT))
  generalize ((w.alloc (.cells #[k, .int .i64 f, .int .i64 t, .slice A n cc, .int .i64 s, .int .i64 i, .int .i64 g, .int .i64 h, .bool p, .bool c] rcT)).alloc (.cells #[.slice none 0 0, .int .i64 0, .int .i64 0, .int .i64 0, .int .i64 0, .bool false, .bool false] cvT)) = w1 at *
  obtain ⟨pb, hpb⟩ : ∃ pb, pb = w.heap.size := ⟨_, rfl⟩
  obtain ⟨qb, hqb⟩ : ∃ qb, qb = w.heap.size + 1 := ⟨_, rfl⟩
  have HW : Hid (w.heap.size ≤ pb ∧ w.heap.size ≤ qb) := by rw [hpb, hqb]; exact ⟨Nat.le_refl _, Nat.le_succ _⟩
  rw [← hqb] at HQ ⊢
  rw [← hpb] at HP ⊢
  have HS1 := hide (HS.out.below (HBW.out.mono hB))
  have hB1 : B ≤ w1.heap.size := Nat.le_trans hB HBW.out.size
  clear hpb hqb HS
  have hp := HP.out.lt
  have hq := HQ.out.lt
  have p0 : w1.cell? ⟨pb, 0, none⟩ = some (k) := HP.out.cell 0
  have p1 : w1.cell? ⟨pb, 1, none⟩ = some (.int .i64 f) := HP.out.cell 1
  have p2 : w1.cell? ⟨pb, 2, none⟩ = some (.int .i64 t) := HP.out.cell 2
  have p3 : w1.cell? ⟨pb, 3, none⟩ = some (.slice A n cc) := HP.out.cell 3
  have p4 : w1.cell? ⟨pb, 4, none⟩ = some (.int .i64 s) := HP.out.cell 4
  have p5 : w1.cell? ⟨pb, 5, none⟩ = some (.int .i64 i) := HP.out.cell 5
  have p6 : w1.cell? ⟨pb, 6, none⟩ = some (.int .i64 g) := HP.out.cell 6
  have p7 : w1.cell? ⟨pb, 7, none⟩ = some (.int .i64 h) := HP.out.cell 7
  have p8 : w1.cell? ⟨pb, 8, none⟩ = some (.bool p) := HP.out.cell 8
  have p9 : w1.cell? ⟨pb, 9, none⟩ = some (.bool c) := HP.out.cell 9
  have HE : Hid (∀ X : World, Own (X.alloc (.cells #[] bT)) X.heap.size bT 1 (.slice (some ⟨X.heap.size, 0, none⟩) 0 0) 0 (bys [])) := fun X => Own.new X X.heap.size #[] (Nat.le_refl _) (by omega) rfl
  have HFA : Hid (∀ (v5 : Value) (X w5 : World) (m : Nat) (xs : List Value), Below w1.heap.size w1 X → App X w1.heap.size bT 1 (.slice (some ⟨w1.heap.size, 0, none⟩) 0 0) m xs v5 w5 → Below w1.heap.size w1 w5) := fun v5 X w5 m xs hX ha =>
    hX.trans (ha.fr.below hX.size (fun k hk h => by have := own_eq h; omega))
  have HCS : Hid (∀ X : World, Below w1.heap.size w1 X → (X.cell? ⟨pb, 0, none⟩ = some (k) ∧ X.cell? ⟨pb, 1, none⟩ = some (.int .i64 f) ∧ X.cell? ⟨pb, 2, none⟩ = some (.int .i64 t) ∧ X.cell? ⟨pb, 3, none⟩ = some (.slice A n cc) ∧ X.cell? ⟨pb, 4, none⟩ = some (.int .i64 s) ∧ X.cell? ⟨pb, 5, none⟩ = some (.int .i64 i) ∧ X.cell? ⟨pb, 6, none⟩ = some (.int .i64 g) ∧ X.cell? ⟨pb, 7, none⟩ = some (.int .i64 h) ∧ X.cell? ⟨pb, 8, none⟩ = some (.bool p) ∧ X.cell? ⟨pb, 9, none⟩ = some (.bool c)) ∧ (X.frozen? ⟨qb, 0, none⟩ = false ∧ X.frozen? ⟨qb, 1, none⟩ = false ∧ X.frozen? ⟨qb, 2, none⟩ = false ∧ X.frozen? ⟨qb, 3, none⟩ = false ∧ X.frozen? ⟨qb, 4, none⟩ = false ∧ X.frozen? ⟨qb, 5, none⟩ = false ∧ X.frozen? ⟨qb, 6, none⟩ = false) ∧ (X.cell? ⟨qb, 0, none⟩ = some (.slice none 0 0) ∧ X.cell? ⟨qb, 1, none⟩ = some (.int .i64 0) ∧ X.cell? ⟨qb, 2, none⟩ = some (.int .i64 0) ∧ X.cell? ⟨qb, 3, none⟩ = some (.int .i64 0) ∧ X.cell? ⟨qb, 4, none⟩ = some (.int .i64 0) ∧ X.cell? ⟨qb, 5, none⟩ = some (.bool false) ∧ X.cell? ⟨qb, 6, none⟩ = some (.bool false)) ∧ qb < X.heap.size ∧ pb < X.heap.size) := by
    intro X hX
    have k1 := HP.out.below hX hp
    have k2 := HQ.out.below hX hq
    exact ⟨⟨k1.cell 0, k1.cell 1, k1.cell 2, k1.cell 3, k1.cell 4, k1.cell 5, k1.cell 6, k1.cell 7, k1.cell 8, k1.cell 9⟩, ⟨k2.frozen 0, k2.frozen 1, k2.frozen 2, k2.frozen 3, k2.frozen 4, k2.frozen 5, k2.frozen 6⟩, ⟨k2.cell 0, k2.cell 1, k2.cell 2, k2.cell 3, k2.cell 4, k2.cell 5, k2.cell 6⟩, k2.lt, k1.lt⟩
  have HPQ : Hid (pb ≠ qb) := HP.out.apart HQ.out (by decide)
  have HC5 : Hid (∀ X : World, Fr (fun k => k = qb) w1 X → X.cell? ⟨pb, 0, none⟩ = some (k) ∧ X.cell? ⟨pb, 1, none⟩ = some (.int .i64 f) ∧ X.cell? ⟨pb, 2, none⟩ = some (.int .i64 t) ∧ X.cell? ⟨pb, 3, none⟩ = some (.slice A n cc) ∧ X.cell? ⟨pb, 4, none⟩ = some (.int .i64 s) ∧ X.cell? ⟨pb, 5, none⟩ = some (.int .i64 i) ∧ X.cell? ⟨pb, 6, none⟩ = some (.int .i64 g) ∧ X.cell? ⟨pb, 7, none⟩ = some (.int .i64 h) ∧ X.cell? ⟨pb, 8, none⟩ = some (.bool p) ∧ X.cell? ⟨pb, 9, none⟩ = some (.bool c)) := fun X hX => by
    have k1 := hX.blk HP.out HPQ.out
    exact ⟨k1.cell 0, k1.cell 1, k1.cell 2, k1.cell 3, k1.cell 4, k1.cell 5, k1.cell 6, k1.cell 7, k1.cell 8, k1.cell 9⟩
  go_region_held3 (fun X : World => X.cell? ⟨pb, 0, none⟩ = some (k) ∧ X.cell? ⟨pb, 1, none⟩ = some (.int .i64 f) ∧ X.cell? ⟨pb, 2, none⟩ = some (.int .i64 t) ∧ X.cell? ⟨pb, 3, none⟩ = some (.slice A n cc) ∧ X.cell? ⟨pb, 4, none⟩ = some (.int .i64 s) ∧ X.cell? ⟨pb, 5, none⟩ = some (.int .i64 i) ∧ X.cell? ⟨pb, 6, none⟩ = some (.int .i64 g) ∧ X.cell? ⟨pb, 7, none⟩ = some (.int .i64 h) ∧ X.cell? ⟨pb, 8, none⟩ = some (.bool p) ∧ X.cell? ⟨pb, 9, none⟩ = some (.bool c)) (first
      | with_reducible exact HC5.out _ (((((((hf5.put (p := ⟨qb, 0, none⟩) (.inl rfl) _).put (p := ⟨qb, 1, none⟩) (.inl rfl) _).put (p := ⟨qb, 2, none⟩) (.inl rfl) _).put (p := ⟨qb, 3, none⟩) (.inl rfl) _).put (p := ⟨qb, 4, none⟩) (.inl rfl) _).put (p := ⟨qb, 5, none⟩) (.inl rfl) _).put (p := ⟨qb, 6, none⟩) (.inl rfl) _)
      | with_reducible exact HC5.out _ hf5
      | exact ⟨p0, p1, p2, p3, p4, p5, p6, p7, p8, p9⟩
      | exact ⟨(HP.out.alloc _).cell 0, (HP.out.alloc _).cell 1, (HP.out.alloc _).cell 2, (HP.out.alloc _).cell 3, (HP.out.alloc _).cell 4, (HP.out.alloc _).cell 5, (HP.out.alloc _).cell 6, (HP.out.alloc _).cell 7, (HP.out.alloc _).cell 8, (HP.out.alloc _).cell 9⟩) (first
    | (refine step_app rfl tyB (.tmp 3) (.tmp 5) rfl w1.heap.size (n := 0) (m := n) (B := B) (xs := bys []) (news := bys D) rfl rfl (by first | exact (HE.out _).drew | exact HE.out _) (by exact HS1.out.below ((((Below.refl w1.heap.size w1).drewN 1).alloc (Nat.le_refl _) _).mono hB1)) (bys_ok D) (by omega) (by omega) (by simp) ?_; intro v5 w5 ha5
       have ho5 : Own w5 w1.heap.size bT 1 v5 n (bys D) := by simpa [bys] using ha5.own
       have hb5 : Below w1.heap.size w1 w5 := HFA.out v5 _ w5 _ _ (by first | exact ((Below.refl w1.heap.size w1).alloc (Nat.le_refl _) _).drewN 1 | exact ((Below.refl w1.heap.size w1).drewN 1).alloc (Nat.le_refl _) _) ha5
       obtain ⟨uA, uc, rfl, huc⟩ := ho5.sl.form
       obtain ⟨_, ⟨y0, y1, y2, y3, y4, y5, y6⟩, ⟨q0, q1, q2, q3, q4, q5, q6⟩, hq5, hp5⟩ := HCS.out w5 hb5
       have hf5 : Fr (fun k => k = qb) w1 w5 := Fr.of_below hb5))
  all_goals
    have HO5 := hide (ho5.lower HBW.out.size)
    have HB5 := hide (HBW.out.trans (hb5.mono HBW.out.size))
    have HQ5 := hide (HQ.out.below hb5 hq)
    have HNE : Hid ((Value.slice uA n uc).ownBlock ≠ some qb) := ho5.ne HQ5.out (by decide)
    clear ho5 hb5 ha5
    have HR9 : Hid (Own (((((((w5.setCell ⟨qb, 0, none⟩ (.slice uA n uc)).setCell ⟨qb, 1, none⟩ (.int .i64 s)).setCell ⟨qb, 2, none⟩ (.int .i64 i)).setCell ⟨qb, 3, none⟩ (.int .i64 g)).setCell ⟨qb, 4, none⟩ (.int .i64 h)).setCell ⟨qb, 5, none⟩ (.bool p)).setCell ⟨qb, 6, none⟩ (.bool c)) w.heap.size bT 1 (.slice uA n uc) n (bys D) ∧
        Blk (((((((w5.setCell ⟨qb, 0, none⟩ (.slice uA n uc)).setCell ⟨qb, 1, none⟩ (.int .i64 s)).setCell ⟨qb, 2, none⟩ (.int .i64 i)).setCell ⟨qb, 3, none⟩ (.int .i64 g)).setCell ⟨qb, 4, none⟩ (.int .i64 h)).setCell ⟨qb, 5, none⟩ (.bool p)).setCell ⟨qb, 6, none⟩ (.bool c)) qb cvT #[.slice uA n uc, .int .i64 s, .int .i64 i, .int .i64 g, .int .i64 h, .bool p, .bool c] ∧
        Below w.heap.size w (((((((w5.setCell ⟨qb, 0, none⟩ (.slice uA n uc)).setCell ⟨qb, 1, none⟩ (.int .i64 s)).setCell ⟨qb, 2, none⟩ (.int .i64 i)).setCell ⟨qb, 3, none⟩ (.int .i64 g)).setCell ⟨qb, 4, none⟩ (.int .i64 h)).setCell ⟨qb, 5, none⟩ (.bool p)).setCell ⟨qb, 6, none⟩ (.bool c))) := by
      refine ⟨?_, ?_, ?_⟩
      · exact (((((((HO5.out.put (p := ⟨qb, 0, none⟩) HNE.out _).put (p := ⟨qb, 1, none⟩) HNE.out _).put (p := ⟨qb, 2, none⟩) HNE.out _).put (p := ⟨qb, 3, none⟩) HNE.out _).put (p := ⟨qb, 4, none⟩) HNE.out _).put (p := ⟨qb, 5, none⟩) HNE.out _).put (p := ⟨qb, 6, none⟩) HNE.out _)
      · exact (((((((HQ5.out.put 0 _).put 1 _).put 2 _).put 3 _).put 4 _).put 5 _).put 6 _)
      · exact ((((((((Fr.of_below HB5.out : Fr nob w w5).put (p := ⟨qb, 0, none⟩) (.inr HW.out.2) _).put (p := ⟨qb, 1, none⟩) (.inr HW.out.2) _).put (p := ⟨qb, 2, none⟩) (.inr HW.out.2) _).put (p := ⟨qb, 3, none⟩) (.inr HW.out.2) _).put (p := ⟨qb, 4, none⟩) (.inr HW.out.2) _).put (p := ⟨qb, 5, none⟩) (.inr HW.out.2) _).put (p := ⟨qb, 6, none⟩) (.inr HW.out.2) _).below (Nat.le_refl _) (fun k _ h => h)
    clear y0 q0 y1 q1 y2 q2 y3 q3 y4 q4 y5 q5 y6 q6 hq5 hp5 hf5 p0 p1 p2 p3 p4 p5 p6 p7 p8 p9 HFA HCS HC5 HE
    go_wp2_with fail
    change bodyPost _ _ _ _ _ (((((((w5.setCell ⟨qb, 0, none⟩ (.slice uA n uc)).setCell ⟨qb, 1, none⟩ (.int .i64 s)).setCell ⟨qb, 2, none⟩ (.int .i64 i)).setCell ⟨qb, 3, none⟩ (.int .i64 g)).setCell ⟨qb, 4, none⟩ (.int .i64 h)).setCell ⟨qb, 5, none⟩ (.bool p)).setCell ⟨qb, 6, none⟩ (.bool c))
    generalize (((((((w5.setCell ⟨qb, 0, none⟩ (.slice uA n uc)).setCell ⟨qb, 1, none⟩ (.int .i64 s)).setCell ⟨qb, 2, none⟩ (.int .i64 i)).setCell ⟨qb, 3, none⟩ (.int .i64 g)).setCell ⟨qb, 4, none⟩ (.int .i64 h)).setCell ⟨qb, 5, none⟩ (.bool p)).setCell ⟨qb, 6, none⟩ (.bool c)) = w9 at *
    have c0 : w9.cell? ⟨qb, 0, none⟩ = some (.slice uA n uc) := HR9.out.2.1.cell 0
    have c1 : w9.cell? ⟨qb, 1, none⟩ = some (.int .i64 s) := HR9.out.2.1.cell 1
    have c2 : w9.cell? ⟨qb, 2, none⟩ = some (.int .i64 i) := HR9.out.2.1.cell 2
    have c3 : w9.cell? ⟨qb, 3, none⟩ = some (.int .i64 g) := HR9.out.2.1.cell 3
    have c4 : w9.cell? ⟨qb, 4, none⟩ = some (.int .i64 h) := HR9.out.2.1.cell 4
    have c5 : w9.cell? ⟨qb, 5, none⟩ = some (.bool p) := HR9.out.2.1.cell 5
    have c6 : w9.cell? ⟨qb, 6, none⟩ = some (.bool c) := HR9.out.2.1.cell 6
    have hres : Try.f12.results = #[.cell 2 cvT] := by kernel_rfl
    refine bodyPost_ret (v := .agg #[.slice uA n uc, .int .i64 s, .int .i64 i, .int .i64 g, .int .i64 h, .bool p, .bool c]) ?_ rfl ⟨_, rfl, HR9.out.1, HR9.out.2.2⟩
    simp [results, hres, go_sem, c0, c1, c2, c3, c4, c5, c6]

end Go.Proofs.Ytkobaidamdffmaa
