/- The reference's Decode. -/
import Derived.Test.YtkobaidamdffmaaQCellsDecodes19

namespace Go.Proofs.Ytkobaidamdffmaa
open Go.RowKit Go.Sort
set_option linter.unusedVariables false
set_option linter.unusedSimpArgs false

/-- behind Decode -/
def RecQ (w : World) (D : List Int) (e : Ending) (w' : World) : Prop :=
  (∃ M xb lv R, DecT D M ∧ M.map kf = R.map rf ∧ e = .returned (.tuple #[.pointer (some ⟨xb, 0, none⟩), .bool true]) ∧ RdT w w' xb lv R) ∨
  ((∀ M, ¬ DecT D M) ∧ (∃ u, e = .returned (.tuple #[.pointer u, .bool false])) ∧ Below w.heap.size w w')
theorem ng_nat {E : List Int} (h8 : Bytes8 E) : ∃ n : Nat, (ngR E 4).getD 0 = (n : Int) ∧ (n : Int) < 4294967296 := by
  cases h : ngR E 4 with
  | none => exact ⟨0, rfl, by omega⟩
  | some x =>
    have h1 := ng_inv h8 h
    exact ⟨x.toNat, (Int.toNat_of_nonneg h1.2.2.1).symm, by omega⟩
set_option maxRecDepth 100000 in
set_option maxHeartbeats 16000000 in
theorem rdecode_any (w : World) (v : Value) (D : List Int) (hs : Sl w w.heap.size v 1 D.length (bys D)) (h8 : Bytes8 D) (hlen : D.length ≤ 1048576) :
    Calls Try.prog 26 #[v] w (RecQ w D) := by
  obtain ⟨vA, vc, rfl, hvc⟩ := hs.form
  have hmx := hs.inv.2.2.1
  have HS := hide hs
  have H8 := hide h8
  obtain ⟨m, hvn⟩ : ∃ n, n = D.length := ⟨_, rfl⟩
  rw [← hvn] at hvc hlen ⊢
  have HVN := hide hvn
  have HSm : Hid (∀ X : World, Below w.heap.size w X → Sl X w.heap.size (.slice vA m vc) 1 m (bys D)) := fun X hX => by have h9 := HS.out.below hX; rw [← HVN.out] at h9; exact h9
  clear hs h8 hvn HS
  obtain ⟨n, hn, hnl⟩ := ng_nat (E := D) H8.out
  have HP0 := hide (DrP.start H8.out hn)
  go_enter Try.func26, Try.ntmps26
  go_wp2_with fail
  refine (rget_any _ _ D m 0 4 w.heap.size (HSm.out _ ((Below.refl _ _).alloc (Nat.le_refl _) _)) HVN.out.symm H8.out (by simp) (Nat.zero_le _) (by omega)).mono ?_
  rintro e w1 ⟨rfl, rfl⟩
  rw [List.drop_zero, hn]
  obtain ⟨b0, hb0⟩ : ∃ b, b = (ngR D 4).isSome := ⟨_, rfl⟩
  rw [← hb0] at HP0 ⊢
  clear hn hb0
  have HR0 : Hid (RdT w (w.alloc (.cells #[.slice none 0 0, .slice none 0 0, .bool false] rtT)) w.heap.size (.slice none 0 0) []) :=
    ⟨Blk.new w _ _, Own.nil _ _ _ _, (fun x hx => by cases hx), (Below.refl _ _).alloc (Nat.le_refl _) _, Nat.le_refl _⟩
  go_upto_region 4 with fail
  generalize hw1 : (w.alloc (.cells #[.slice none 0 0, .slice none 0 0, .bool false] rtT)) = w1 at *
  clear hw1
  obtain ⟨xb, hxb⟩ : ∃ xb, xb = w.heap.size := ⟨_, rfl⟩
  have HXB := hide hxb
  rw [← hxb] at HR0
  have HR1 : Hid (RdT w w1 xb (.slice none 0 0) []) := HR0.out
  clear HR0
  rw [show (Value.pointer (some { block := w.heap.size, off := 0 }) : Value) = .pointer (some ⟨xb, 0, none⟩) by rw [hxb]]
  clear hxb
  go_wp2_with fail
  go_loopw [6, 7, 8] (fun okv av iv wr => ∃ (k a : Nat) (ok : Bool) (lv : Value) (R : List RC), k ≤ n ∧ iv = .int .i64 k ∧ okv = .bool ok ∧ av = .int .i64 a ∧ Hid (DrP D n k a ok R) ∧ Hid (RdT w wr xb lv R)) (fun _ _ i _ => n - (intOf i).toNat)
  case atStart => exact ⟨0, 4, b0, _, [], Nat.zero_le _, rfl, rfl, rfl, HP0.out, HR1.out⟩
  case round =>
  clear HP0 HR1
  obtain ⟨k, a, ok, lv, R, hk, rfl, rfl, rfl, HP, HR⟩ := hrel
  obtain ⟨wo, rfl⟩ : ∃ x, x = wr := ⟨_, rfl⟩
  by_cases hlt : k < n
  · cases ok
    · exact absurd (HP.out.bad rfl).1 (by omega)
    · have hal : a ≤ m := by rw [HVN.out]; exact (HP.out.good rfl).1
      go_upto_region 10 with fail
      have hz := HR.out.bl.size
      have HW0 : Hid (RiW wo (((wo.alloc (.cells #[.slice none 0 0, .int .i64 0, .int .i64 0, .slice none 0 0, .int .i64 0, .int .i64 0, .int .i64 0, .int .i64 0, .bool false, .bool false] rcT)).alloc (.cells #[.int .i64 0, .int .i64 0, .int .i64 0, .int .i64 0, .int .i64 0, .int .i64 0, .int .i64 0, .int .i64 0, .int .i64 0, .int .i64 0, .int .i64 0] arT)).alloc (.cells szV arT)) wo.heap.size (wo.heap.size + 1) (wo.heap.size + 1 + 1) (.slice none 0 0) (.slice none 0 0) [0, 0, 0, 0, 0, 0, 0, 0, 0, 0, 0] [] []) := by
        refine ⟨(((Below.refl _ _).alloc (Nat.le_refl _) _).alloc (by simp) _).alloc (by simp; omega) _, ((Blk.new wo _ _).alloc _).alloc _, ?_, ?_, Own.nil _ _ _ _, Own.nil _ _ _ _, ⟨(fun c hc => by cases hc), fun c hc => by cases hc⟩, ⟨Nat.le_refl _, by omega, by omega⟩, by omega⟩
        · have h9 := (Blk.new (wo.alloc (.cells #[.slice none 0 0, .int .i64 0, .int .i64 0, .slice none 0 0, .int .i64 0, .int .i64 0, .int .i64 0, .int .i64 0, .bool false, .bool false] rcT)) arT #[.int .i64 0, .int .i64 0, .int .i64 0, .int .i64 0, .int .i64 0, .int .i64 0, .int .i64 0, .int .i64 0, .int .i64 0, .int .i64 0, .int .i64 0]).alloc (.cells szV arT)
          simpa using h9
        · have h9 := Blk.new ((wo.alloc (.cells #[.slice none 0 0, .int .i64 0, .int .i64 0, .slice none 0 0, .int .i64 0, .int .i64 0, .int .i64 0, .int .i64 0, .bool false, .bool false] rcT)).alloc (.cells #[.int .i64 0, .int .i64 0, .int .i64 0, .int .i64 0, .int .i64 0, .int .i64 0, .int .i64 0, .int .i64 0, .int .i64 0, .int .i64 0, .int .i64 0] arT)) arT szV
          simpa using h9
      unfold szV at HW0
      change Code.wp _ _ _ _ (((wo.alloc (.cells #[.slice none 0 0, .int .i64 0, .int .i64 0, .slice none 0 0, .int .i64 0, .int .i64 0, .int .i64 0, .int .i64 0, .bool false, .bool false] rcT)).alloc (.cells #[.int .i64 0, .int .i64 0, .int .i64 0, .int .i64 0, .int .i64 0, .int .i64 0, .int .i64 0, .int .i64 0, .int .i64 0, .int .i64 0, .int .i64 0] arT)).alloc (.cells #[.int .i64 4, .int .i64 4, .int .i64 4, .int .i64 4, .int .i64 4, .int .i64 8, .int .i64 8, .int .i64 1, .int .i64 1, .int .i64 1, .int .i64 0] arT))
      generalize (((wo.alloc (.cells #[.slice none 0 0, .int .i64 0, .int .i64 0, .slice none 0 0, .int .i64 0, .int .i64 0, .int .i64 0, .int .i64 0, .bool false, .bool false] rcT)).alloc (.cells #[.int .i64 0, .int .i64 0, .int .i64 0, .int .i64 0, .int .i64 0, .int .i64 0, .int .i64 0, .int .i64 0, .int .i64 0, .int .i64 0, .int .i64 0] arT)).alloc (.cells #[.int .i64 4, .int .i64 4, .int .i64 4, .int .i64 4, .int .i64 4, .int .i64 8, .int .i64 8, .int .i64 1, .int .i64 1, .int .i64 1, .int .i64 0] arT)) = w2 at *
      obtain ⟨cb, hcb⟩ : ∃ b, b = wo.heap.size := ⟨_, rfl⟩
      obtain ⟨vb, hvb⟩ : ∃ b, b = cb + 1 := ⟨_, rfl⟩
      obtain ⟨sb, hsb⟩ : ∃ b, b = vb + 1 := ⟨_, rfl⟩
      rw [← hcb, ← hvb, ← hsb] at HW0 ⊢
      clear hcb hvb hsb
      go_wp2_with fail
      go_loopw [6, 7, 12] (fun okv av iv wr => ∃ (j a' : Nat) (ok : Bool) (kv cv : Value) (vl kb ab : List Int), j ≤ 10 ∧ iv = .int .i64 j ∧ okv = .bool ok ∧ av = .int .i64 a' ∧ a' ≤ m + 8 ∧ Hid (RiP D a j a' ok vl kb ab) ∧ Hid (RiW wo wr cb vb sb kv cv vl kb ab)) (fun _ _ i _ => 10 - (intOf i).toNat)
      case atStart => exact ⟨0, a, true, _, _, _, [], [], Nat.zero_le _, rfl, rfl, rfl, by omega, RiP.start (by rw [← HVN.out]; exact hal), HW0.out⟩
      case round =>
      clear HW0
      obtain ⟨j, a', ok, kv, cv, vl, kb, ab, hj, rfl, rfl, rfl, ha', HI, HW⟩ := hrel
      by_cases hj10 : j < 10
      · cases ok
        · have hji : (j : Int) < 10 := by omega
          clear hj10 hj
          have HNO : Hid (∀ M, ¬ DecT D M) := HP.out.none hlt (HI.out.bad rfl)
          obtain ⟨x0, x1, x2, x3, x4, x5, x6, x7, x8, x9, x10, hvl⟩ : ∃ x0 x1 x2 x3 x4 x5 x6 x7 x8 x9 x10, vl = [x0, x1, x2, x3, x4, x5, x6, x7, x8, x9, x10] := by
            have h9 := HI.out.len
            rcases vl with _ | ⟨y0, vl⟩; · simp at h9
            rcases vl with _ | ⟨y1, vl⟩; · simp at h9
            rcases vl with _ | ⟨y2, vl⟩; · simp at h9
            rcases vl with _ | ⟨y3, vl⟩; · simp at h9
            rcases vl with _ | ⟨y4, vl⟩; · simp at h9
            rcases vl with _ | ⟨y5, vl⟩; · simp at h9
            rcases vl with _ | ⟨y6, vl⟩; · simp at h9
            rcases vl with _ | ⟨y7, vl⟩; · simp at h9
            rcases vl with _ | ⟨y8, vl⟩; · simp at h9
            rcases vl with _ | ⟨y9, vl⟩; · simp at h9
            rcases vl with _ | ⟨y10, vl⟩; · simp at h9
            rcases vl with _ | ⟨y11, vl⟩
            · exact ⟨_, _, _, _, _, _, _, _, _, _, _, rfl⟩
            · simp at h9
          have hl0 : 0 ≤ x0 ∧ x0 < 4611686018427387904 := HI.out.lim _ (by rw [hvl]; simp)
          have hl1 : 0 ≤ x1 ∧ x1 < 4611686018427387904 := HI.out.lim _ (by rw [hvl]; simp)
          have HVE := hide hvl
          rw [hvl] at HW
          clear hvl
          have v0 : wr.cell? ⟨vb, 0, none⟩ = some (.int .i64 x0) := HW.out.vv.cell 0
          have v1 : wr.cell? ⟨vb, 1, none⟩ = some (.int .i64 x1) := HW.out.vv.cell 1
          have v4 : wr.cell? ⟨vb, 4, none⟩ = some (.int .i64 x4) := HW.out.vv.cell 4
          have v5 : wr.cell? ⟨vb, 5, none⟩ = some (.int .i64 x5) := HW.out.vv.cell 5
          have v6 : wr.cell? ⟨vb, 6, none⟩ = some (.int .i64 x6) := HW.out.vv.cell 6
          have v7 : wr.cell? ⟨vb, 7, none⟩ = some (.int .i64 x7) := HW.out.vv.cell 7
          have v8 : wr.cell? ⟨vb, 8, none⟩ = some (.int .i64 x8) := HW.out.vv.cell 8
          have v9 : wr.cell? ⟨vb, 9, none⟩ = some (.int .i64 x9) := HW.out.vv.cell 9
          have vlt := HW.out.vv.lt
          have c1 : wr.cell? ⟨cb, 1, none⟩ = some (.int .i64 0) := HW.out.cc.cell 1
          have cf1 := HW.out.cc.frozen 1
          have c2 : wr.cell? ⟨cb, 2, none⟩ = some (.int .i64 0) := HW.out.cc.cell 2
          have cf2 := HW.out.cc.frozen 2
          have c4 : wr.cell? ⟨cb, 4, none⟩ = some (.int .i64 0) := HW.out.cc.cell 4
          have cf4 := HW.out.cc.frozen 4
          have c5 : wr.cell? ⟨cb, 5, none⟩ = some (.int .i64 0) := HW.out.cc.cell 5
          have cf5 := HW.out.cc.frozen 5
          have c6 : wr.cell? ⟨cb, 6, none⟩ = some (.int .i64 0) := HW.out.cc.cell 6
          have cf6 := HW.out.cc.frozen 6
          have c7 : wr.cell? ⟨cb, 7, none⟩ = some (.int .i64 0) := HW.out.cc.cell 7
          have cf7 := HW.out.cc.frozen 7
          have c8 : wr.cell? ⟨cb, 8, none⟩ = some (.bool false) := HW.out.cc.cell 8
          have cf8 := HW.out.cc.frozen 8
          have c9 : wr.cell? ⟨cb, 9, none⟩ = some (.bool false) := HW.out.cc.cell 9
          have cf9 := HW.out.cc.frozen 9
          have clt := HW.out.cc.lt
          have hne : ¬ (vb = cb) := fun e => by have h9 := HW.out.vv; rw [e] at h9; exact h9.apart HW.out.cc (by decide) rfl
          have hne2 : ¬ (cb = vb) := fun e => hne e.symm
          obtain ⟨p8, e8⟩ : ∃ b, (x8 == 1) = b := ⟨_, rfl⟩
          obtain ⟨p9, e9⟩ : ∃ b, (x9 == 1) = b := ⟨_, rfl⟩
          have HE8 : Hid (p8 = decide (x8 = 1)) := by show _ = _; rw [← e8]; by_cases h : x8 = 1 <;> simp [h]
          have HE9 : Hid (p9 = decide (x9 = 1)) := by show _ = _; rw [← e9]; by_cases h : x9 = 1 <;> simp [h]
          have HWF := hide (HW.out.fill (x0 - 4194304) (x1 - 4194304) x4 x5 x7 x6 p8 p9)
          unfold putRc at HWF
          go_upto_region 26 with fail
          change Code.wp _ _ _ _ ((((((((wr.setCell ⟨cb, 1, none⟩ (.int .i64 (x0 - 4194304))).setCell ⟨cb, 2, none⟩ (.int .i64 (x1 - 4194304))).setCell ⟨cb, 4, none⟩ (.int .i64 x4)).setCell ⟨cb, 5, none⟩ (.int .i64 x5)).setCell ⟨cb, 6, none⟩ (.int .i64 x7)).setCell ⟨cb, 7, none⟩ (.int .i64 x6)).setCell ⟨cb, 8, none⟩ (.bool p8)).setCell ⟨cb, 9, none⟩ (.bool p9))
          generalize ((((((((wr.setCell ⟨cb, 1, none⟩ (.int .i64 (x0 - 4194304))).setCell ⟨cb, 2, none⟩ (.int .i64 (x1 - 4194304))).setCell ⟨cb, 4, none⟩ (.int .i64 x4)).setCell ⟨cb, 5, none⟩ (.int .i64 x5)).setCell ⟨cb, 6, none⟩ (.int .i64 x7)).setCell ⟨cb, 7, none⟩ (.int .i64 x6)).setCell ⟨cb, 8, none⟩ (.bool p8)).setCell ⟨cb, 9, none⟩ (.bool p9)) = w9 at *
          clear v0 v1 v4 v5 v6 v7 v8 v9 vlt c1 c2 c4 c5 c6 c7 c8 c9 cf1 cf2 cf4 cf5 cf6 cf7 cf8 cf9 clt hne hne2 e8 e9 hl0 hl1 HW
          have HR9 := hide (HR.out.below HWF.out.bl)
          refine wp_region_aft (by kernel_rfl) (by kernel_rfl) ?_
          repeat (go_big_quiet_step (first | fail))
          refine wpQuiet_nil ?_
          intro w10 hb10
          have HBL : Hid (Below w.heap.size w w10) := (HR9.out.below hb10).bl
          clear hb10
          go_wp2_with fail
          go_ret2
          exact .inr ⟨HNO.out, ⟨_, rfl⟩, HBL.out⟩
        · have hz0 : Below w.heap.size w wr := HR.out.bl.trans (HW.out.bl.mono HR.out.bl.size)
          have haD : a' ≤ m := by rw [HVN.out]; exact (HI.out.good rfl).1
          have hvl : vl.length = 11 := HI.out.len
          obtain ⟨z0, v0⟩ : ∃ z, wr.cell? ⟨vb, j, none⟩ = some z := ⟨.int .i64 (vl[j]'(by omega)), (HW.out.vv.cell j).trans (by simp)⟩
          have vf := HW.out.vv.frozen j
          have vlt := HW.out.vv.lt
          have s0 : wr.cell? ⟨sb, j, none⟩ = some (.int .i64 (szL j : Nat)) := (HW.out.ss.cell j).trans (sz_at j hj10)
          have sl := HW.out.ss.lt
          obtain ⟨sj, hsj⟩ : ∃ s, s = szL j := ⟨_, rfl⟩
          have hs8 : sj ≤ 8 ∧ 1 ≤ sj := by rw [hsj]; exact szL_le j
          rw [← hsj] at s0
          have HSJ := hide hsj
          have hji : (j : Int) < 10 := by omega
          have hji1 : (j : Int) < 11 := by omega
          have HJ10 := hide hj10
          have HVL := hide hvl
          have HZ0 := hide hz0
          clear hj10 hj hsj hvl hz0
          go_wp2_with fail
          refine (rget_any _ _ D m a' sj w.heap.size (HSm.out _ HZ0.out) HVN.out.symm H8.out HZ0.out.size haD hs8.1).mono ?_
          rintro e w3 ⟨rfl, rfl⟩
          cases hng : ngR (D.drop a') sj with
          | none =>
            have HL := hide (HI.out.lost (a' := a' + sj) (kb' := kb) (ab' := ab) HJ10.out (by rw [← HSJ.out]; exact hng))
            have HW3 := hide (HW.out.num (k := j) 0 (by rw [HVL.out]; have := HJ10.out; omega))
            simp only [Option.getD_none, Option.isSome_none]
            go_upto_region 14 with fail
            generalize (w3.setCell ⟨vb, j, none⟩ (.int .i64 0)) = w4 at *
            clear s0 sl v0 vf vlt hng
            have s0 : w4.cell? ⟨sb, j, none⟩ = some (.int .i64 (sj : Nat)) := by have h9 := (HW3.out.ss.cell j).trans (sz_at j HJ10.out); rw [← HSJ.out] at h9; exact h9
            have sl := HW3.out.ss.lt
            go_wp2_with fail
            go_roundw
            case rel =>
              have hj11 : j + 1 ≤ 10 := HJ10.out
              exact ⟨(j + 1 : Nat), (a' + sj : Nat), false, kv, cv, vl.set j 0, kb, ab, hj11, by first | rfl | simp, rfl, by first | rfl | simp, by omega, HL.out.1, HW3.out⟩
            case measure => simp [intOf]; omega
          | some x =>
            obtain ⟨xn, hxn⟩ : ∃ n : Nat, x = (n : Int) := ⟨x.toNat, (Int.toNat_of_nonneg (ng_bd (H8.out.drop a') hng).1).symm⟩
            subst hxn
            have hxb : xn < 4611686018427387904 := by have := (ng_bd (H8.out.drop a') hng).2; omega
            have has : a' + sj ≤ m := by
              have h9 := (ng_inv (H8.out.drop a') hng).1
              rw [List.length_drop, ← HVN.out] at h9
              omega
            have HNG : Hid (ngR (D.drop a') (szL j) = some (xn : Int)) := by rw [← HSJ.out]; exact hng
            have HW3 := hide (HW.out.num (k := j) xn (by rw [HVL.out]; have := HJ10.out; omega))
            simp only [Option.getD_some, Option.isSome_some]
            go_upto_region 14 with fail
            generalize (w3.setCell ⟨vb, j, none⟩ (.int .i64 xn)) = w4 at *
            clear s0 sl v0 vf vlt hng HW
            have s0 : w4.cell? ⟨sb, j, none⟩ = some (.int .i64 (sj : Nat)) := by have h9 := (HW3.out.ss.cell j).trans (sz_at j HJ10.out); rw [← HSJ.out] at h9; exact h9
            have sl := HW3.out.ss.lt
            have v0 : w4.cell? ⟨vb, j, none⟩ = some (.int .i64 xn) := (HW3.out.vv.cell j).trans (by rw [List.getElem?_toArray, List.getElem?_map, List.getElem?_set_self (by rw [HVL.out]; have := HJ10.out; omega)]; rfl)
            have vlt := HW3.out.vv.lt
            by_cases h23 : j = 2 ∨ j = 3
            · have HI2 := hide (fun h => HI.out.part (x := xn) H8.out h23 HNG.out h)
              have HIC := hide (fun h => HI.out.cut h23 HNG.out h (by rw [← HSJ.out, ← HVN.out]; exact has))
              rw [← HSJ.out, ← HVN.out] at HI2 HIC
              by_cases hb1 : 1048576 < xn ∨ m - (a' + sj) < xn
              · have HNO : Hid (∀ M, ¬ DecT D M) := HP.out.none hlt (HIC.out (by omega))
                have HBL : Hid (Below w.heap.size w w4) := HR.out.bl.trans (HW3.out.bl.mono HR.out.bl.size)
                clear HI2 HIC
                have hb2 : (1048576 : Int) < (xn : Int) ∨ (¬ (1048576 : Int) < (xn : Int) ∧ (m : Int) - ((a' : Int) + (sj : Int)) < (xn : Int)) := by omega
                clear hb1 hxb
                rcases h23 with rfl | rfl
                all_goals
                  rcases hb2 with hb2 | ⟨hb2, hb3⟩
                  all_goals
                    go_wp2_with fail
                    go_ret2
                    exact .inr ⟨HNO.out, ⟨_, rfl⟩, HBL.out⟩
              · have hx1 : xn ≤ 1048576 ∧ a' + sj + xn ≤ m := by omega
                have HI3 := hide (HI2.out hx1)
                have hx2 : ¬ (1048576 : Int) < (xn : Int) := by omega
                clear HI2 HIC hb1 hxb
                go_upto_region 15 with fail
                obtain ⟨a2, ha2⟩ : ∃ n, n = a' + sj := ⟨_, rfl⟩
                have HA2 := hide ha2
                rw [show (a' : Int) + (sj : Int) = (a2 : Int) by omega]
                have ha3 : a2 + xn ≤ m := by omega
                have hx3 : ¬ (m : Int) - (a2 : Int) < (xn : Int) := by omega
                have hbz : Below w.heap.size w w4 := HR.out.bl.trans (HW3.out.bl.mono HR.out.bl.size)
                have HPS : Hid (∀ X : World, Below w4.heap.size w4 X → Sl X w.heap.size (.slice (if vc = a2 then vA else vA.map (·.add a2)) xn (vc - a2)) 1 xn (bys ((D.drop a2).take xn))) := fun X hX => by
                  have h9 := (HSm.out X (hbz.trans (hX.mono hbz.size))).drop' (k := a2) (by omega)
                  have h8 := h9.take (k := xn) (by omega)
                  rw [bys_drop, bys_take, Nat.mul_one] at h8
                  exact h8
                have HPL : Hid (((D.drop a2).take xn).length = xn) := by show _ = _; rw [List.length_take, List.length_drop, ← HVN.out]; omega
                have HB8 : Hid (Bytes8 ((D.drop a2).take xn)) := (H8.out.drop a2).take xn
                rw [← ha2] at HI3
                have hzw : w.heap.size ≤ w4.heap.size := hbz.size
                have hzo : wo.heap.size ≤ w4.heap.size := HW3.out.bl.size
                obtain ⟨pt, hpt⟩ : ∃ p, p = (D.drop a2).take xn := ⟨_, rfl⟩
                rw [← hpt] at HI3 HPS HPL HB8
                clear ha2 hx1 hpt hbz has haD ha' s0 sl
                rcases h23 with rfl | rfl
                · by_cases hcap : vc = a2
                  · subst hcap
                    rw [if_pos rfl] at HPS
                    go_wp2_with (at_builtin; refine wpList_app rfl tyB (.tmp 76) (.tmp 84) rfl wo.heap.size (n := 0) (m := xn) (B := w.heap.size) (xs := []) (news := bys pt) rfl rfl ?c1 ?c2 (bys_ok _) (by omega) (by omega) (by simp; omega) ?_)
                    case c1 => exact Own.new w4 wo.heap.size #[] hzo (by omega) rfl
                    case c2 =>
                      have h9 := HPS.out _ ((Below.refl _ _).alloc (Nat.le_refl _) (.cells #[] bT))
                      simpa using h9
                    intro v5 w5 ha5
                    have HO5 : Hid (Own w5 wo.heap.size bT 1 v5 xn (bys pt)) := by simpa [Hid] using ha5.own
                    have HB5 : Below w4.heap.size w4 w5 := ((Below.refl w4.heap.size w4).alloc (Nat.le_refl _) _).trans (ha5.fr.below (by simp) (fun k hk h => by have := own_eq h; omega))
                    have HW5 := hide (HW3.out.below HB5)
                    clear ha5 HB5 hzo hzw HPS HW3 v0 vlt
                    obtain ⟨pA, pc, rfl, hpc⟩ := HO5.out.sl.form
                    have v0 : w5.cell? ⟨vb, 2, none⟩ = some (.int .i64 xn) := (HW5.out.vv.cell 2).trans (by rw [List.getElem?_toArray, List.getElem?_map, List.getElem?_set_self (by rw [HVL.out]; omega)]; rfl)
                    have vlt := HW5.out.vv.lt
                    have c0 : w5.cell? ⟨cb, 0, none⟩ = some kv := HW5.out.cc.cell 0
                    have cf := HW5.out.cc.frozen 0
                    have clt := HW5.out.cc.lt
                    have HW6 := hide (HW5.out.part (pv := .slice pA xn pc) (pt := pt) (by rw [HPL.out]; exact HO5.out) HB8.out).1
                    go_wp2_with fail
                    go_roundw
                    case rel =>
                      have h9 := HI3.out
                      exact ⟨3, (vc + xn : Nat), true, (.slice pA xn pc), cv, vl.set 2 xn, pt, ab, by omega, by first | rfl | simp, rfl, by first | rfl | simp, by omega, h9, HW6.out⟩
                    case measure => simp [intOf]
                  · rw [if_neg hcap] at HPS
                    go_wp2_with (at_builtin; refine wpList_app rfl tyB (.tmp 76) (.tmp 84) rfl wo.heap.size (n := 0) (m := xn) (B := w.heap.size) (xs := []) (news := bys pt) rfl rfl ?c1 ?c2 (bys_ok _) (by omega) (by omega) (by simp; omega) ?_)
                    case c1 => exact Own.new w4 wo.heap.size #[] hzo (by omega) rfl
                    case c2 => exact HPS.out _ ((Below.refl _ _).alloc (Nat.le_refl _) _)
                    intro v5 w5 ha5
                    have HO5 : Hid (Own w5 wo.heap.size bT 1 v5 xn (bys pt)) := by simpa [Hid] using ha5.own
                    have HB5 : Below w4.heap.size w4 w5 := ((Below.refl w4.heap.size w4).alloc (Nat.le_refl _) _).trans (ha5.fr.below (by simp) (fun k hk h => by have := own_eq h; omega))
                    have HW5 := hide (HW3.out.below HB5)
                    clear ha5 HB5 hzo hzw HPS HW3 v0 vlt
                    obtain ⟨pA, pc, rfl, hpc⟩ := HO5.out.sl.form
                    have v0 : w5.cell? ⟨vb, 2, none⟩ = some (.int .i64 xn) := (HW5.out.vv.cell 2).trans (by rw [List.getElem?_toArray, List.getElem?_map, List.getElem?_set_self (by rw [HVL.out]; omega)]; rfl)
                    have vlt := HW5.out.vv.lt
                    have c0 : w5.cell? ⟨cb, 0, none⟩ = some kv := HW5.out.cc.cell 0
                    have cf := HW5.out.cc.frozen 0
                    have clt := HW5.out.cc.lt
                    have HW6 := hide (HW5.out.part (pv := .slice pA xn pc) (pt := pt) (by rw [HPL.out]; exact HO5.out) HB8.out).1
                    clear hcap
                    go_wp2_with fail
                    go_roundw
                    case rel =>
                      have h9 := HI3.out
                      exact ⟨3, (a2 + xn : Nat), true, (.slice pA xn pc), cv, vl.set 2 xn, pt, ab, by omega, by first | rfl | simp, rfl, by first | rfl | simp, by omega, h9, HW6.out⟩
                    case measure => simp [intOf]
                · by_cases hcap : vc = a2
                  · subst hcap
                    rw [if_pos rfl] at HPS
                    go_wp2_with (at_builtin; refine wpList_app rfl tyB (.tmp 76) (.tmp 84) rfl wo.heap.size (n := 0) (m := xn) (B := w.heap.size) (xs := []) (news := bys pt) rfl rfl ?c1 ?c2 (bys_ok _) (by omega) (by omega) (by simp; omega) ?_)
                    case c1 => exact Own.new w4 wo.heap.size #[] hzo (by omega) rfl
                    case c2 =>
                      have h9 := HPS.out _ ((Below.refl _ _).alloc (Nat.le_refl _) (.cells #[] bT))
                      simpa using h9
                    intro v5 w5 ha5
                    have HO5 : Hid (Own w5 wo.heap.size bT 1 v5 xn (bys pt)) := by simpa [Hid] using ha5.own
                    have HB5 : Below w4.heap.size w4 w5 := ((Below.refl w4.heap.size w4).alloc (Nat.le_refl _) _).trans (ha5.fr.below (by simp) (fun k hk h => by have := own_eq h; omega))
                    have HW5 := hide (HW3.out.below HB5)
                    clear ha5 HB5 hzo hzw HPS HW3 v0 vlt
                    obtain ⟨pA, pc, rfl, hpc⟩ := HO5.out.sl.form
                    have v0 : w5.cell? ⟨vb, 3, none⟩ = some (.int .i64 xn) := (HW5.out.vv.cell 3).trans (by rw [List.getElem?_toArray, List.getElem?_map, List.getElem?_set_self (by rw [HVL.out]; omega)]; rfl)
                    have vlt := HW5.out.vv.lt
                    have c0 : w5.cell? ⟨cb, 3, none⟩ = some cv := HW5.out.cc.cell 3
                    have cf := HW5.out.cc.frozen 3
                    have clt := HW5.out.cc.lt
                    have HW6 := hide (HW5.out.part (pv := .slice pA xn pc) (pt := pt) (by rw [HPL.out]; exact HO5.out) HB8.out).2
                    go_wp2_with fail
                    go_roundw
                    case rel =>
                      have h9 := HI3.out
                      exact ⟨4, (vc + xn : Nat), true, kv, (.slice pA xn pc), vl.set 3 xn, kb, pt, by omega, by first | rfl | simp, rfl, by first | rfl | simp, by omega, h9, HW6.out⟩
                    case measure => simp [intOf]
                  · rw [if_neg hcap] at HPS
                    go_wp2_with (at_builtin; refine wpList_app rfl tyB (.tmp 76) (.tmp 84) rfl wo.heap.size (n := 0) (m := xn) (B := w.heap.size) (xs := []) (news := bys pt) rfl rfl ?c1 ?c2 (bys_ok _) (by omega) (by omega) (by simp; omega) ?_)
                    case c1 => exact Own.new w4 wo.heap.size #[] hzo (by omega) rfl
                    case c2 => exact HPS.out _ ((Below.refl _ _).alloc (Nat.le_refl _) _)
                    intro v5 w5 ha5
                    have HO5 : Hid (Own w5 wo.heap.size bT 1 v5 xn (bys pt)) := by simpa [Hid] using ha5.own
                    have HB5 : Below w4.heap.size w4 w5 := ((Below.refl w4.heap.size w4).alloc (Nat.le_refl _) _).trans (ha5.fr.below (by simp) (fun k hk h => by have := own_eq h; omega))
                    have HW5 := hide (HW3.out.below HB5)
                    clear ha5 HB5 hzo hzw HPS HW3 v0 vlt
                    obtain ⟨pA, pc, rfl, hpc⟩ := HO5.out.sl.form
                    have v0 : w5.cell? ⟨vb, 3, none⟩ = some (.int .i64 xn) := (HW5.out.vv.cell 3).trans (by rw [List.getElem?_toArray, List.getElem?_map, List.getElem?_set_self (by rw [HVL.out]; omega)]; rfl)
                    have vlt := HW5.out.vv.lt
                    have c0 : w5.cell? ⟨cb, 3, none⟩ = some cv := HW5.out.cc.cell 3
                    have cf := HW5.out.cc.frozen 3
                    have clt := HW5.out.cc.lt
                    have HW6 := hide (HW5.out.part (pv := .slice pA xn pc) (pt := pt) (by rw [HPL.out]; exact HO5.out) HB8.out).2
                    clear hcap
                    go_wp2_with fail
                    go_roundw
                    case rel =>
                      have h9 := HI3.out
                      exact ⟨4, (a2 + xn : Nat), true, kv, (.slice pA xn pc), vl.set 3 xn, kb, pt, by omega, by first | rfl | simp, rfl, by first | rfl | simp, by omega, h9, HW6.out⟩
                    case measure => simp [intOf]
            · have e2 : ((j : Int) == 2) = false := by rw [beq_eq_false_iff_ne]; omega
              have e3 : ((j : Int) == 3) = false := by rw [beq_eq_false_iff_ne]; omega
              have HI2 := hide (HI.out.plain H8.out HJ10.out h23 HNG.out)
              rw [← HSJ.out] at HI2
              clear h23
              go_wp2_with fail
              go_roundw
              case rel =>
                have hj11 : j + 1 ≤ 10 := HJ10.out
                exact ⟨(j + 1 : Nat), (a' + sj : Nat), true, kv, cv, vl.set j xn, kb, ab, hj11, by first | rfl | simp, rfl, by first | rfl | simp, by omega, HI2.out, HW3.out⟩
              case measure => simp [intOf]; omega
      · obtain rfl : j = 10 := by omega
        cases ok
        · clear hj hj10
          have HNO : Hid (∀ M, ¬ DecT D M) := HP.out.none hlt (HI.out.bad rfl)
          obtain ⟨x0, x1, x2, x3, x4, x5, x6, x7, x8, x9, x10, hvl⟩ : ∃ x0 x1 x2 x3 x4 x5 x6 x7 x8 x9 x10, vl = [x0, x1, x2, x3, x4, x5, x6, x7, x8, x9, x10] := by
            have h9 := HI.out.len
            rcases vl with _ | ⟨y0, vl⟩; · simp at h9
            rcases vl with _ | ⟨y1, vl⟩; · simp at h9
            rcases vl with _ | ⟨y2, vl⟩; · simp at h9
            rcases vl with _ | ⟨y3, vl⟩; · simp at h9
            rcases vl with _ | ⟨y4, vl⟩; · simp at h9
            rcases vl with _ | ⟨y5, vl⟩; · simp at h9
            rcases vl with _ | ⟨y6, vl⟩; · simp at h9
            rcases vl with _ | ⟨y7, vl⟩; · simp at h9
            rcases vl with _ | ⟨y8, vl⟩; · simp at h9
            rcases vl with _ | ⟨y9, vl⟩; · simp at h9
            rcases vl with _ | ⟨y10, vl⟩; · simp at h9
            rcases vl with _ | ⟨y11, vl⟩
            · exact ⟨_, _, _, _, _, _, _, _, _, _, _, rfl⟩
            · simp at h9
          have hl0 : 0 ≤ x0 ∧ x0 < 4611686018427387904 := HI.out.lim _ (by rw [hvl]; simp)
          have hl1 : 0 ≤ x1 ∧ x1 < 4611686018427387904 := HI.out.lim _ (by rw [hvl]; simp)
          have HVE := hide hvl
          rw [hvl] at HW
          clear hvl
          have v0 : wr.cell? ⟨vb, 0, none⟩ = some (.int .i64 x0) := HW.out.vv.cell 0
          have v1 : wr.cell? ⟨vb, 1, none⟩ = some (.int .i64 x1) := HW.out.vv.cell 1
          have v4 : wr.cell? ⟨vb, 4, none⟩ = some (.int .i64 x4) := HW.out.vv.cell 4
          have v5 : wr.cell? ⟨vb, 5, none⟩ = some (.int .i64 x5) := HW.out.vv.cell 5
          have v6 : wr.cell? ⟨vb, 6, none⟩ = some (.int .i64 x6) := HW.out.vv.cell 6
          have v7 : wr.cell? ⟨vb, 7, none⟩ = some (.int .i64 x7) := HW.out.vv.cell 7
          have v8 : wr.cell? ⟨vb, 8, none⟩ = some (.int .i64 x8) := HW.out.vv.cell 8
          have v9 : wr.cell? ⟨vb, 9, none⟩ = some (.int .i64 x9) := HW.out.vv.cell 9
          have vlt := HW.out.vv.lt
          have c1 : wr.cell? ⟨cb, 1, none⟩ = some (.int .i64 0) := HW.out.cc.cell 1
          have cf1 := HW.out.cc.frozen 1
          have c2 : wr.cell? ⟨cb, 2, none⟩ = some (.int .i64 0) := HW.out.cc.cell 2
          have cf2 := HW.out.cc.frozen 2
          have c4 : wr.cell? ⟨cb, 4, none⟩ = some (.int .i64 0) := HW.out.cc.cell 4
          have cf4 := HW.out.cc.frozen 4
          have c5 : wr.cell? ⟨cb, 5, none⟩ = some (.int .i64 0) := HW.out.cc.cell 5
          have cf5 := HW.out.cc.frozen 5
          have c6 : wr.cell? ⟨cb, 6, none⟩ = some (.int .i64 0) := HW.out.cc.cell 6
          have cf6 := HW.out.cc.frozen 6
          have c7 : wr.cell? ⟨cb, 7, none⟩ = some (.int .i64 0) := HW.out.cc.cell 7
          have cf7 := HW.out.cc.frozen 7
          have c8 : wr.cell? ⟨cb, 8, none⟩ = some (.bool false) := HW.out.cc.cell 8
          have cf8 := HW.out.cc.frozen 8
          have c9 : wr.cell? ⟨cb, 9, none⟩ = some (.bool false) := HW.out.cc.cell 9
          have cf9 := HW.out.cc.frozen 9
          have clt := HW.out.cc.lt
          have hne : ¬ (vb = cb) := fun e => by have h9 := HW.out.vv; rw [e] at h9; exact h9.apart HW.out.cc (by decide) rfl
          have hne2 : ¬ (cb = vb) := fun e => hne e.symm
          obtain ⟨p8, e8⟩ : ∃ b, (x8 == 1) = b := ⟨_, rfl⟩
          obtain ⟨p9, e9⟩ : ∃ b, (x9 == 1) = b := ⟨_, rfl⟩
          have HE8 : Hid (p8 = decide (x8 = 1)) := by show _ = _; rw [← e8]; by_cases h : x8 = 1 <;> simp [h]
          have HE9 : Hid (p9 = decide (x9 = 1)) := by show _ = _; rw [← e9]; by_cases h : x9 = 1 <;> simp [h]
          have HWF := hide (HW.out.fill (x0 - 4194304) (x1 - 4194304) x4 x5 x7 x6 p8 p9)
          unfold putRc at HWF
          go_upto_region 26 with fail
          change Code.wp _ _ _ _ ((((((((wr.setCell ⟨cb, 1, none⟩ (.int .i64 (x0 - 4194304))).setCell ⟨cb, 2, none⟩ (.int .i64 (x1 - 4194304))).setCell ⟨cb, 4, none⟩ (.int .i64 x4)).setCell ⟨cb, 5, none⟩ (.int .i64 x5)).setCell ⟨cb, 6, none⟩ (.int .i64 x7)).setCell ⟨cb, 7, none⟩ (.int .i64 x6)).setCell ⟨cb, 8, none⟩ (.bool p8)).setCell ⟨cb, 9, none⟩ (.bool p9))
          generalize ((((((((wr.setCell ⟨cb, 1, none⟩ (.int .i64 (x0 - 4194304))).setCell ⟨cb, 2, none⟩ (.int .i64 (x1 - 4194304))).setCell ⟨cb, 4, none⟩ (.int .i64 x4)).setCell ⟨cb, 5, none⟩ (.int .i64 x5)).setCell ⟨cb, 6, none⟩ (.int .i64 x7)).setCell ⟨cb, 7, none⟩ (.int .i64 x6)).setCell ⟨cb, 8, none⟩ (.bool p8)).setCell ⟨cb, 9, none⟩ (.bool p9)) = w9 at *
          clear v0 v1 v4 v5 v6 v7 v8 v9 vlt c1 c2 c4 c5 c6 c7 c8 c9 cf1 cf2 cf4 cf5 cf6 cf7 cf8 cf9 clt hne hne2 e8 e9 hl0 hl1 HW
          have HR9 := hide (HR.out.below HWF.out.bl)
          refine wp_region_aft (by kernel_rfl) (by kernel_rfl) ?_
          repeat (go_big_quiet_step (first | fail))
          refine wpQuiet_nil ?_
          intro w10 hb10
          have HBL : Hid (Below w.heap.size w w10) := (HR9.out.below hb10).bl
          clear hb10
          go_wp2_with fail
          go_ret2
          exact .inr ⟨HNO.out, ⟨_, rfl⟩, HBL.out⟩
        · clear hj hj10
          obtain ⟨x0, x1, x2, x3, x4, x5, x6, x7, x8, x9, x10, hvl⟩ : ∃ x0 x1 x2 x3 x4 x5 x6 x7 x8 x9 x10, vl = [x0, x1, x2, x3, x4, x5, x6, x7, x8, x9, x10] := by
            have h9 := HI.out.len
            rcases vl with _ | ⟨y0, vl⟩; · simp at h9
            rcases vl with _ | ⟨y1, vl⟩; · simp at h9
            rcases vl with _ | ⟨y2, vl⟩; · simp at h9
            rcases vl with _ | ⟨y3, vl⟩; · simp at h9
            rcases vl with _ | ⟨y4, vl⟩; · simp at h9
            rcases vl with _ | ⟨y5, vl⟩; · simp at h9
            rcases vl with _ | ⟨y6, vl⟩; · simp at h9
            rcases vl with _ | ⟨y7, vl⟩; · simp at h9
            rcases vl with _ | ⟨y8, vl⟩; · simp at h9
            rcases vl with _ | ⟨y9, vl⟩; · simp at h9
            rcases vl with _ | ⟨y10, vl⟩; · simp at h9
            rcases vl with _ | ⟨y11, vl⟩
            · exact ⟨_, _, _, _, _, _, _, _, _, _, _, rfl⟩
            · simp at h9
          have hl0 : 0 ≤ x0 ∧ x0 < 4611686018427387904 := HI.out.lim _ (by rw [hvl]; simp)
          have hl1 : 0 ≤ x1 ∧ x1 < 4611686018427387904 := HI.out.lim _ (by rw [hvl]; simp)
          have HVE := hide hvl
          rw [hvl] at HW
          clear hvl
          have v0 : wr.cell? ⟨vb, 0, none⟩ = some (.int .i64 x0) := HW.out.vv.cell 0
          have v1 : wr.cell? ⟨vb, 1, none⟩ = some (.int .i64 x1) := HW.out.vv.cell 1
          have v4 : wr.cell? ⟨vb, 4, none⟩ = some (.int .i64 x4) := HW.out.vv.cell 4
          have v5 : wr.cell? ⟨vb, 5, none⟩ = some (.int .i64 x5) := HW.out.vv.cell 5
          have v6 : wr.cell? ⟨vb, 6, none⟩ = some (.int .i64 x6) := HW.out.vv.cell 6
          have v7 : wr.cell? ⟨vb, 7, none⟩ = some (.int .i64 x7) := HW.out.vv.cell 7
          have v8 : wr.cell? ⟨vb, 8, none⟩ = some (.int .i64 x8) := HW.out.vv.cell 8
          have v9 : wr.cell? ⟨vb, 9, none⟩ = some (.int .i64 x9) := HW.out.vv.cell 9
          have vlt := HW.out.vv.lt
          have c1 : wr.cell? ⟨cb, 1, none⟩ = some (.int .i64 0) := HW.out.cc.cell 1
          have cf1 := HW.out.cc.frozen 1
          have c2 : wr.cell? ⟨cb, 2, none⟩ = some (.int .i64 0) := HW.out.cc.cell 2
          have cf2 := HW.out.cc.frozen 2
          have c4 : wr.cell? ⟨cb, 4, none⟩ = some (.int .i64 0) := HW.out.cc.cell 4
          have cf4 := HW.out.cc.frozen 4
          have c5 : wr.cell? ⟨cb, 5, none⟩ = some (.int .i64 0) := HW.out.cc.cell 5
          have cf5 := HW.out.cc.frozen 5
          have c6 : wr.cell? ⟨cb, 6, none⟩ = some (.int .i64 0) := HW.out.cc.cell 6
          have cf6 := HW.out.cc.frozen 6
          have c7 : wr.cell? ⟨cb, 7, none⟩ = some (.int .i64 0) := HW.out.cc.cell 7
          have cf7 := HW.out.cc.frozen 7
          have c8 : wr.cell? ⟨cb, 8, none⟩ = some (.bool false) := HW.out.cc.cell 8
          have cf8 := HW.out.cc.frozen 8
          have c9 : wr.cell? ⟨cb, 9, none⟩ = some (.bool false) := HW.out.cc.cell 9
          have cf9 := HW.out.cc.frozen 9
          have clt := HW.out.cc.lt
          have hne : ¬ (vb = cb) := fun e => by have h9 := HW.out.vv; rw [e] at h9; exact h9.apart HW.out.cc (by decide) rfl
          have hne2 : ¬ (cb = vb) := fun e => hne e.symm
          obtain ⟨p8, e8⟩ : ∃ b, (x8 == 1) = b := ⟨_, rfl⟩
          obtain ⟨p9, e9⟩ : ∃ b, (x9 == 1) = b := ⟨_, rfl⟩
          have HE8 : Hid (p8 = decide (x8 = 1)) := by show _ = _; rw [← e8]; by_cases h : x8 = 1 <;> simp [h]
          have HE9 : Hid (p9 = decide (x9 = 1)) := by show _ = _; rw [← e9]; by_cases h : x9 = 1 <;> simp [h]
          have HWF := hide (HW.out.fill (x0 - 4194304) (x1 - 4194304) x4 x5 x7 x6 p8 p9)
          unfold putRc at HWF
          go_upto_region 26 with fail
          change Code.wp _ _ _ _ ((((((((wr.setCell ⟨cb, 1, none⟩ (.int .i64 (x0 - 4194304))).setCell ⟨cb, 2, none⟩ (.int .i64 (x1 - 4194304))).setCell ⟨cb, 4, none⟩ (.int .i64 x4)).setCell ⟨cb, 5, none⟩ (.int .i64 x5)).setCell ⟨cb, 6, none⟩ (.int .i64 x7)).setCell ⟨cb, 7, none⟩ (.int .i64 x6)).setCell ⟨cb, 8, none⟩ (.bool p8)).setCell ⟨cb, 9, none⟩ (.bool p9))
          generalize ((((((((wr.setCell ⟨cb, 1, none⟩ (.int .i64 (x0 - 4194304))).setCell ⟨cb, 2, none⟩ (.int .i64 (x1 - 4194304))).setCell ⟨cb, 4, none⟩ (.int .i64 x4)).setCell ⟨cb, 5, none⟩ (.int .i64 x5)).setCell ⟨cb, 6, none⟩ (.int .i64 x7)).setCell ⟨cb, 7, none⟩ (.int .i64 x6)).setCell ⟨cb, 8, none⟩ (.bool p8)).setCell ⟨cb, 9, none⟩ (.bool p9)) = w9 at *
          generalize hyf : x0 - 4194304 = yf at *
          generalize hyt : x1 - 4194304 = yt at *
          have HYF := hide hyf
          have HYT := hide hyt
          clear hyf hyt v0 v1 v4 v5 v6 v7 v8 v9 vlt c1 c2 c4 c5 c6 c7 c8 c9 cf1 cf2 cf4 cf5 cf6 cf7 cf8 cf9 clt hne hne2 e8 e9 hl0 hl1 HW
          have HY : Hid (rcd 10 (D.drop a) = some ⟨[x0, x1, x2, x3, x4, x5, x6, x7, x8, x9], kb, ab, D.drop a'⟩ ∧ a' ≤ D.length) := by
            have h9 := HI.out.good rfl
            rw [HVE.out] at h9
            exact ⟨h9.2, h9.1⟩
          have HDE : Hid ((⟨ab, x4, x5, x7, x6, p8, p9⟩ : CD) = cdR ab x4 x5 x6 x7 x8 x9) := by show _ = _; rw [HE8.out, HE9.out]; rfl
          clear HE8 HE9 HVE
          have HR9 := hide (HR.out.below HWF.out.bl)
          have HWO : Hid (w.heap.size ≤ wo.heap.size) := HR.out.bl.size
          obtain ⟨kA, kc, hkv, hkc⟩ := HWF.out.kk.sl.form
          obtain ⟨cA, cc, hcv, hcc⟩ := HWF.out.aa.sl.form
          simp only at hkv hkc hcv hcc
          obtain ⟨kn, hkn⟩ : ∃ n, n = kb.length := ⟨_, rfl⟩
          obtain ⟨cn, hcn⟩ : ∃ n, n = ab.length := ⟨_, rfl⟩
          rw [← hkn] at hkv hkc
          rw [← hcn] at hcv hcc
          subst hkv hcv
          have HKN := hide hkn
          have HCN := hide hcn
          clear hkn hcn
          obtain ⟨rr, hrr⟩ : ∃ b, b = decide (keyR kn yf yt ∧ (⟨ab, x4, x5, x7, x6, p8, p9⟩ : CD).right) := ⟨_, rfl⟩
          have HRR := hide hrr
          have HRT : Hid (∀ p : Aft w9, Calls Try.prog 28 #[.agg #[.slice kA kn kc, .int .i64 yf, .int .i64 yt, .slice cA cn cc, .int .i64 x4, .int .i64 x5, .int .i64 x7, .int .i64 x6, .bool p8, .bool p9]] p.w' fun e w' => e = .returned (.bool rr) ∧ Below p.w'.heap.size p.w' w') := fun p => by
            have h9 := right_any kA cA kn kc cn cc yf yt ⟨ab, x4, x5, x7, x6, p8, p9⟩ HCN.out.symm p.w'
            rw [← hrr] at h9
            exact h9
          clear hrr
          have clt := HWF.out.cc.lt
          have vlt := HWF.out.vv.lt
          have xlt := HR9.out.blk.lt
          have c0 := Aft.cell (show w9.cell? ⟨cb, 0, none⟩ = some (.slice kA kn kc) from HWF.out.cc.cell 0) clt
          have c1 := Aft.cell (show w9.cell? ⟨cb, 1, none⟩ = some (.int .i64 yf) from HWF.out.cc.cell 1) clt
          have c2 := Aft.cell (show w9.cell? ⟨cb, 2, none⟩ = some (.int .i64 yt) from HWF.out.cc.cell 2) clt
          have c3 := Aft.cell (show w9.cell? ⟨cb, 3, none⟩ = some (.slice cA cn cc) from HWF.out.cc.cell 3) clt
          have c4 := Aft.cell (show w9.cell? ⟨cb, 4, none⟩ = some (.int .i64 x4) from HWF.out.cc.cell 4) clt
          have c5 := Aft.cell (show w9.cell? ⟨cb, 5, none⟩ = some (.int .i64 x5) from HWF.out.cc.cell 5) clt
          have c6 := Aft.cell (show w9.cell? ⟨cb, 6, none⟩ = some (.int .i64 x7) from HWF.out.cc.cell 6) clt
          have c7 := Aft.cell (show w9.cell? ⟨cb, 7, none⟩ = some (.int .i64 x6) from HWF.out.cc.cell 7) clt
          have c8 := Aft.cell (show w9.cell? ⟨cb, 8, none⟩ = some (.bool p8) from HWF.out.cc.cell 8) clt
          have c9 := Aft.cell (show w9.cell? ⟨cb, 9, none⟩ = some (.bool p9) from HWF.out.cc.cell 9) clt
          have v8 := Aft.cell (show w9.cell? ⟨vb, 8, none⟩ = some (.int .i64 x8) from HWF.out.vv.cell 8) vlt
          have v9 := Aft.cell (show w9.cell? ⟨vb, 9, none⟩ = some (.int .i64 x9) from HWF.out.vv.cell 9) vlt
          have l0 := Aft.cell (show w9.cell? ⟨xb, 0, none⟩ = some lv from HR9.out.blk.cell 0) xlt
          by_cases g8 : 1 < x8
          · have HNO : Hid (∀ M, ¬ DecT D M) := HP.out.wrong hlt HY.out.1 rfl (.inl g8)
            refine wp_region_aft (by kernel_rfl) (by kernel_rfl) ?_
            repeat (go_big_quiet_step (first | fail))
            refine wpQuiet_nil ?_
            intro w10 hb10
            have HBL : Hid (Below w.heap.size w w10) := (HR9.out.below hb10).bl
            clear hb10 c0 c1 c2 c3 c4 c5 c6 c7 c8 c9 v8 v9 l0
            go_wp2_with fail
            go_ret2
            exact .inr ⟨HNO.out, ⟨_, rfl⟩, HBL.out⟩
          · by_cases g9 : 1 < x9
            · have HNO : Hid (∀ M, ¬ DecT D M) := HP.out.wrong hlt HY.out.1 rfl (.inr (.inl g9))
              refine wp_region_aft (by kernel_rfl) (by kernel_rfl) ?_
              repeat (go_big_quiet_step (first | fail))
              refine wpQuiet_nil ?_
              intro w10 hb10
              have HBL : Hid (Below w.heap.size w w10) := (HR9.out.below hb10).bl
              clear hb10 c0 c1 c2 c3 c4 c5 c6 c7 c8 c9 v8 v9 l0
              go_wp2_with fail
              go_ret2
              exact .inr ⟨HNO.out, ⟨_, rfl⟩, HBL.out⟩
            · cases rr
              · have HNR := of_decide_eq_false HRR.out.symm
                have HNO : Hid (∀ M, ¬ DecT D M) := HP.out.wrong hlt HY.out.1 rfl (.inr (.inr (by rw [HYF.out, HYT.out, ← HDE.out, ← HKN.out]; exact HNR)))
                clear HNR
                refine wp_region_aft (by kernel_rfl) (by kernel_rfl) ?_
                repeat (go_big_quiet_step (first | (go_at_call 28; with_reducible exact calls_aft (HRT.out _))))
                refine wpQuiet_nil ?_
                intro w10 hb10
                have HBL : Hid (Below w.heap.size w w10) := (HR9.out.below hb10).bl
                clear hb10 c0 c1 c2 c3 c4 c5 c6 c7 c8 c9 v8 v9 l0
                go_wp2_with fail
                go_ret2
                exact .inr ⟨HNO.out, ⟨_, rfl⟩, HBL.out⟩
              · have hgt : ¬ 1 < x8 ∧ ¬ 1 < x9 := ⟨g8, g9⟩
                have HRI := hide (of_decide_eq_true HRR.out.symm)
                obtain ⟨z, hz⟩ : ∃ z : RC, z = ⟨.slice kA kn kc, kb, yf, yt, .slice cA cn cc, ⟨ab, x4, x5, x7, x6, p8, p9⟩⟩ := ⟨_, rfl⟩
                have HZ := hide hz
                clear hz
                have HNX : Hid ((∀ x, 0 < k → R[k - 1]? = some x → ordR x z < 0) → DrP D n (k + 1) a' true (R ++ [z])) := fun ho => HP.out.next H8.out hlt HY.out.1 rfl (by rw [HZ.out]; exact ⟨rfl, HYF.out.symm, HYT.out.symm⟩) (by rw [HZ.out]; exact HDE.out) ⟨hgt.1, hgt.2, by rw [HYF.out, HYT.out, ← HDE.out, ← HKN.out]; exact HRI.out⟩ ho rfl HY.out.2
                have HRL := hide HP.out.len
                have HAL : Hid (a' ≤ m) := by rw [HVN.out]; exact HY.out.2
                by_cases hk0 : 0 < k
                · obtain ⟨k1, hk1⟩ : ∃ k1, k1 = k - 1 := ⟨_, rfl⟩
                  have hkk : (k : Int) - 1 = (k1 : Int) := by omega
                  have hk1l : k1 < k := by omega
                  have hk1R : k1 < R.length := by rw [HRL.out]; exact hk1l
                  obtain ⟨y, hy⟩ : ∃ y, y = R[k1] := ⟨_, rfl⟩
                  have HRY : Hid (R[k - 1]? = some y) := by show _ = _; rw [← hk1, hy]; exact List.getElem?_eq_getElem hk1R
                  have HYQ := hide (HR9.out.q y (by rw [hy]; exact List.getElem_mem hk1R))
                  obtain ⟨lA, lc, hlv, hlc⟩ := HR9.out.own.sl.form
                  rw [HRL.out] at hlv hlc
                  have HOS : Hid (Sl w9 w9.heap.size (.slice lA k lc) 10 k (rcs R)) := by have h9 := HR9.out.own.sl; rw [hlv, HRL.out] at h9; exact h9
                  have t0 : w9.cell? ⟨xb, 0, none⟩ = some (.slice lA k lc) := by rw [← hlv]; exact HR9.out.blk.cell 0
                  have HLV := hide hlv
                  clear l0 hk1 hlv
                  obtain ⟨ad, hlA, hab, b0, b1, b2, b3, b4, b5, b6, b7, b8, b9⟩ := rc_at HOS.out hk1l HRL.out
                  subst hlA
                  have l0 := Aft.cell t0 xlt
                  rw [← hy] at b0 b1 b2 b3 b4 b5 b6 b7 b8 b9
                  clear hy t0 HOS hk1R
                  obtain ⟨yk, ykb, yff, ytt, ya, yd⟩ := y
                  obtain ⟨yA, yc, hyk, hyc⟩ := HYQ.out.1.sl.form
                  obtain ⟨yE, yq, hya, hyq⟩ := HYQ.out.2.1.sl.form
                  simp only at hyk hyc hya hyq b0 b1 b2 b3 b4 b5 b6 b7 b8 b9
                  obtain ⟨yn, hyn⟩ : ∃ n, n = ykb.length := ⟨_, rfl⟩
                  obtain ⟨ym, hym⟩ : ∃ n, n = yd.b.length := ⟨_, rfl⟩
                  rw [← hyn] at hyk hyc
                  rw [← hym] at hya hyq
                  subst hyk hya
                  have HYN := hide hyn
                  have HYM := hide hym
                  clear hyn hym
                  obtain ⟨od, hod⟩ : ∃ o, o = ordC ⟨yff, ytt⟩ ⟨yf, yt⟩ ykb kb := ⟨_, rfl⟩
                  have HOE : Hid (od = ordR ⟨.slice yA yn yc, ykb, yff, ytt, .slice yE ym yq, yd⟩ z) := by show _ = _; rw [hod, HZ.out]; rfl
                  have HOD : Hid (∀ p : Aft w9, Calls Try.prog 16 #[.agg #[.slice yA yn yc, .int .i64 yff, .int .i64 ytt, .slice yE ym yq, .int .i64 yd.s, .int .i64 yd.n, .int .i64 yd.g, .int .i64 yd.h, .bool yd.p, .bool yd.c], .agg #[.slice kA kn kc, .int .i64 yf, .int .i64 yt, .slice cA cn cc, .int .i64 x4, .int .i64 x5, .int .i64 x7, .int .i64 x6, .bool p8, .bool p9]] p.w' fun e w' => e = .returned (.int .i64 od) ∧ Below p.w'.heap.size p.w' w') := fun p => by
                    have h1 : Sl p.w' w9.heap.size (.slice yA yn yc) 1 yn (bys ykb) := by have h9 := HYQ.out.1.sl.below p.h; simp only at h9; rw [← HYN.out] at h9; exact h9
                    have h2 : Sl p.w' w9.heap.size (.slice kA kn kc) 1 kn (bys kb) := by have h9 := HWF.out.kk.sl.below p.h; simp only at h9; rw [← HKN.out] at h9; exact h9
                    have h9 := rorder_any yA kA yE cA yc kc ym cn yq cc ykb kb yff ytt yf yt yd.s yd.n yd.g yd.h x4 x5 x7 x6 yd.p yd.c p8 p9 w9.heap.size w9.heap.size p.w' (by rw [← HYN.out]; exact h1) (by rw [← HKN.out]; exact h2) HYQ.out.2.2.1 HWF.out.k8.1 p.h.size p.h.size
                    rw [← HYN.out, ← HKN.out, ← hod] at h9
                    exact h9
                  clear hod
                  have a0 := Aft.cell b0 hab
                  have a1 := Aft.cell b1 hab
                  have a2 := Aft.cell b2 hab
                  have a3 := Aft.cell b3 hab
                  have a4 := Aft.cell b4 hab
                  have a5 := Aft.cell b5 hab
                  have a6 := Aft.cell b6 hab
                  have a7 := Aft.cell b7 hab
                  have a8 := Aft.cell b8 hab
                  have a9 := Aft.cell b9 hab
                  clear b0 b1 b2 b3 b4 b5 b6 b7 b8 b9
                  have hk2 : (0 < k) = True := eq_true hk0
                  by_cases ho : od < 0
                  · have HNY := hide (HNX.out (fun x _ hx => by rw [HRY.out] at hx; have h9 := Option.some.inj hx; subst h9; rw [← HOE.out]; exact ho))
                    have hge : ((0 : Int) ≤ od) = False := eq_false (by omega)
                    clear HNX hgt ho hk0
                    refine wp_region_aft (by kernel_rfl) (by kernel_rfl) ?_
                    repeat (go_big_quiet_step (first | (go_at_call 28; with_reducible exact calls_aft (HRT.out _)) | (go_at_call 16; with_reducible exact calls_aft (HOD.out _))))
                    refine wpQuiet_nil ?_
                    intro w10 hb10
                    clear a0 a1 a2 a3 a4 a5 a6 a7 a8 a9 HOD HYQ HRY HOE hab hkk hk1l hlc
                    have HR10 := hide (HR9.out.below hb10)
                    have HX10 := hide (HWF.out.below hb10)
                    clear hb10 c0 c1 c2 c3 c4 c5 c6 c7 c8 c9 v8 v9 l0 HR9 HWF HRT
                    obtain ⟨lA, lc, hlv, hlc⟩ := HR10.out.own.sl.form
                    rw [HRL.out] at hlv hlc
                    subst hlv
                    have c0 : w10.cell? ⟨cb, 0, none⟩ = some (.slice kA kn kc) := HX10.out.cc.cell 0
                    have c1 : w10.cell? ⟨cb, 1, none⟩ = some (.int .i64 yf) := HX10.out.cc.cell 1
                    have c2 : w10.cell? ⟨cb, 2, none⟩ = some (.int .i64 yt) := HX10.out.cc.cell 2
                    have c3 : w10.cell? ⟨cb, 3, none⟩ = some (.slice cA cn cc) := HX10.out.cc.cell 3
                    have c4 : w10.cell? ⟨cb, 4, none⟩ = some (.int .i64 x4) := HX10.out.cc.cell 4
                    have c5 : w10.cell? ⟨cb, 5, none⟩ = some (.int .i64 x5) := HX10.out.cc.cell 5
                    have c6 : w10.cell? ⟨cb, 6, none⟩ = some (.int .i64 x7) := HX10.out.cc.cell 6
                    have c7 : w10.cell? ⟨cb, 7, none⟩ = some (.int .i64 x6) := HX10.out.cc.cell 7
                    have c8 : w10.cell? ⟨cb, 8, none⟩ = some (.bool p8) := HX10.out.cc.cell 8
                    have c9 : w10.cell? ⟨cb, 9, none⟩ = some (.bool p9) := HX10.out.cc.cell 9
                    have clt := HX10.out.cc.lt
                    have t0 : w10.cell? ⟨xb, 0, none⟩ = some (.slice lA k lc) := HR10.out.blk.cell 0
                    have t0f := HR10.out.blk.frozen 0
                    have xlt := HR10.out.blk.lt
                    have hk9 : k < 4294967296 := by omega
                    have HOW : Hid (Own w10 w.heap.size rcT 10 (.slice lA k lc) k (rcs R)) := by have h9 := HR10.out.own; rw [HRL.out] at h9; exact h9
                    have hzw : w.heap.size ≤ w10.heap.size := HR10.out.bl.size
                    have HZC : Hid (rcs [z] = #[.slice kA kn kc, .int .i64 yf, .int .i64 yt, .slice cA cn cc, .int .i64 x4, .int .i64 x5, .int .i64 x7, .int .i64 x6, .bool p8, .bool p9].toList ∧ z.k.oneCell' = true ∧ z.a.oneCell' = true) := by
                      show _ ∧ _
                      rw [HZ.out]
                      exact ⟨by rw [rcs, List.flatMap_singleton]; rfl, rfl, rfl⟩
                    have HSL : Hid (∀ W : World, Sl (W.alloc (.cells #[.slice kA kn kc, .int .i64 yf, .int .i64 yt, .slice cA cn cc, .int .i64 x4, .int .i64 x5, .int .i64 x7, .int .i64 x6, .bool p8, .bool p9] rcT)) (W.heap.size + 1) (.slice (some ⟨W.heap.size, 0, none⟩) 1 1) 10 1 (rcs [z])) := fun W => by
                      have h9 := (Sl.of_own (Own.new (n := 1) (sz := 10) (e := rcT) (base := 0) W #[.slice kA kn kc, .int .i64 yf, .int .i64 yt, .slice cA cn cc, .int .i64 x4, .int .i64 x5, .int .i64 x7, .int .i64 x6, .bool p8, .bool p9] (by omega) (by omega) rfl)).mono (show _ ≤ W.heap.size + 1 by simp)
                      rw [HZC.out.1]
                      exact h9
                    go_wp2_with fail
                    go_region_law (
                      refine step_app rfl tyRC (.tmp 160) (.tmp 162) rfl w.heap.size (n := k) (m := 1) (B := w10.heap.size + 1) (xs := rcs R) (news := rcs [z]) rfl rfl (by first | exact (HOW.out.alloc _) | exact (HOW.out.alloc _).drew) (by exact HSL.out w10.drew) (rcs_ok _ (by intro u hu; simp only [List.mem_singleton] at hu; subst hu; exact HZC.out.2)) (by omega) (by omega) (by simp; omega) ?_
                      intro v5 w5 ha5
                      obtain ⟨A5, cc5, rfl, hc5⟩ := ha5.own.sl.form
                      have hnb : (Value.slice lA k lc).ownBlock ≠ some xb := HOW.out.ne HR10.out.blk (by decide)
                      have B5 : Blk w5 xb rtT #[.slice lA k lc, .slice none 0 0, .bool false] := ha5.fr.blk (by first | exact HR10.out.blk.alloc _ | exact (HR10.out.blk.alloc _).drew) hnb
                      have k4 : w5.cell? ⟨xb, 0, none⟩ = some (.slice lA k lc) := B5.cell 0
                      have q4 := B5.frozen 0
                      have klt := B5.lt)
                    all_goals
                      have HRS : Hid (RdT w (w5.setCell ⟨xb, 0, none⟩ (.slice A5 (k + 1) cc5)) xb (.slice A5 (k + 1) cc5) (R ++ [z])) :=
                        HR10.out.snoc HRL.out (((Below.refl w10.heap.size w10).alloc (Nat.le_refl _) _).drewN 1) (by
                          rw [HZ.out]
                          have h1 := HX10.out.k8
                          have h2 := HRI.out
                          rw [HKN.out] at h2
                          exact ⟨HX10.out.kk.lower HWO.out, HX10.out.aa.lower HWO.out, h1.1, h1.2, h2.1.1, h2.2.1⟩) ha5
                      clear ha5 B5 hnb HX10 HR10 HOW HSL c0 c1 c2 c3 c4 c5 c6 c7 c8 c9 t0 t0f
                      go_wp2_with fail
                      go_roundw
                      case rel => exact ⟨(k + 1 : Nat), a', true, _, R ++ [z], by omega, by first | rfl | simp, rfl, by first | rfl | simp, HNY.out, HRS.out⟩
                      case measure => simp [intOf]; omega

                  · have HNO : Hid (∀ M, ¬ DecT D M) := HP.out.order hlt HY.out.1 rfl hk0 HRY.out (z := z) (by rw [HZ.out]; exact ⟨rfl, HYF.out.symm, HYT.out.symm⟩) (by rw [← HOE.out]; exact ho)
                    have hge : ((0 : Int) ≤ od) = True := eq_true (by omega)
                    clear HNX hgt ho hk0
                    refine wp_region_aft (by kernel_rfl) (by kernel_rfl) ?_
                    repeat (go_big_quiet_step (first | (go_at_call 28; with_reducible exact calls_aft (HRT.out _)) | (go_at_call 16; with_reducible exact calls_aft (HOD.out _))))
                    refine wpQuiet_nil ?_
                    intro w10 hb10
                    clear a0 a1 a2 a3 a4 a5 a6 a7 a8 a9
                    have HBL : Hid (Below w.heap.size w w10) := (HR9.out.below hb10).bl
                    clear hb10 c0 c1 c2 c3 c4 c5 c6 c7 c8 c9 v8 v9 l0
                    go_wp2_with fail
                    go_ret2
                    exact .inr ⟨HNO.out, ⟨_, rfl⟩, HBL.out⟩
                · have HNY := hide (HNX.out (fun x h9 => absurd h9 hk0))
                  have hk1 : (0 < k) = False := eq_false (by omega)
                  clear HNX hk0 hgt
                  refine wp_region_aft (by kernel_rfl) (by kernel_rfl) ?_
                  repeat (go_big_quiet_step (first | (go_at_call 28; with_reducible exact calls_aft (HRT.out _))))
                  refine wpQuiet_nil ?_
                  intro w10 hb10
                  have HR10 := hide (HR9.out.below hb10)
                  have HX10 := hide (HWF.out.below hb10)
                  clear hb10 c0 c1 c2 c3 c4 c5 c6 c7 c8 c9 v8 v9 l0 HR9 HWF HRT
                  obtain ⟨lA, lc, hlv, hlc⟩ := HR10.out.own.sl.form
                  rw [HRL.out] at hlv hlc
                  subst hlv
                  have c0 : w10.cell? ⟨cb, 0, none⟩ = some (.slice kA kn kc) := HX10.out.cc.cell 0
                  have c1 : w10.cell? ⟨cb, 1, none⟩ = some (.int .i64 yf) := HX10.out.cc.cell 1
                  have c2 : w10.cell? ⟨cb, 2, none⟩ = some (.int .i64 yt) := HX10.out.cc.cell 2
                  have c3 : w10.cell? ⟨cb, 3, none⟩ = some (.slice cA cn cc) := HX10.out.cc.cell 3
                  have c4 : w10.cell? ⟨cb, 4, none⟩ = some (.int .i64 x4) := HX10.out.cc.cell 4
                  have c5 : w10.cell? ⟨cb, 5, none⟩ = some (.int .i64 x5) := HX10.out.cc.cell 5
                  have c6 : w10.cell? ⟨cb, 6, none⟩ = some (.int .i64 x7) := HX10.out.cc.cell 6
                  have c7 : w10.cell? ⟨cb, 7, none⟩ = some (.int .i64 x6) := HX10.out.cc.cell 7
                  have c8 : w10.cell? ⟨cb, 8, none⟩ = some (.bool p8) := HX10.out.cc.cell 8
                  have c9 : w10.cell? ⟨cb, 9, none⟩ = some (.bool p9) := HX10.out.cc.cell 9
                  have clt := HX10.out.cc.lt
                  have t0 : w10.cell? ⟨xb, 0, none⟩ = some (.slice lA k lc) := HR10.out.blk.cell 0
                  have t0f := HR10.out.blk.frozen 0
                  have xlt := HR10.out.blk.lt
                  have hk9 : k < 4294967296 := by omega
                  have HOW : Hid (Own w10 w.heap.size rcT 10 (.slice lA k lc) k (rcs R)) := by have h9 := HR10.out.own; rw [HRL.out] at h9; exact h9
                  have hzw : w.heap.size ≤ w10.heap.size := HR10.out.bl.size
                  have HZC : Hid (rcs [z] = #[.slice kA kn kc, .int .i64 yf, .int .i64 yt, .slice cA cn cc, .int .i64 x4, .int .i64 x5, .int .i64 x7, .int .i64 x6, .bool p8, .bool p9].toList ∧ z.k.oneCell' = true ∧ z.a.oneCell' = true) := by
                    show _ ∧ _
                    rw [HZ.out]
                    exact ⟨by rw [rcs, List.flatMap_singleton]; rfl, rfl, rfl⟩
                  have HSL : Hid (∀ W : World, Sl (W.alloc (.cells #[.slice kA kn kc, .int .i64 yf, .int .i64 yt, .slice cA cn cc, .int .i64 x4, .int .i64 x5, .int .i64 x7, .int .i64 x6, .bool p8, .bool p9] rcT)) (W.heap.size + 1) (.slice (some ⟨W.heap.size, 0, none⟩) 1 1) 10 1 (rcs [z])) := fun W => by
                    have h9 := (Sl.of_own (Own.new (n := 1) (sz := 10) (e := rcT) (base := 0) W #[.slice kA kn kc, .int .i64 yf, .int .i64 yt, .slice cA cn cc, .int .i64 x4, .int .i64 x5, .int .i64 x7, .int .i64 x6, .bool p8, .bool p9] (by omega) (by omega) rfl)).mono (show _ ≤ W.heap.size + 1 by simp)
                    rw [HZC.out.1]
                    exact h9
                  go_wp2_with fail
                  go_region_law (
                    refine step_app rfl tyRC (.tmp 160) (.tmp 162) rfl w.heap.size (n := k) (m := 1) (B := w10.heap.size + 1) (xs := rcs R) (news := rcs [z]) rfl rfl (by first | exact (HOW.out.alloc _) | exact (HOW.out.alloc _).drew) (by exact HSL.out w10.drew) (rcs_ok _ (by intro u hu; simp only [List.mem_singleton] at hu; subst hu; exact HZC.out.2)) (by omega) (by omega) (by simp; omega) ?_
                    intro v5 w5 ha5
                    obtain ⟨A5, cc5, rfl, hc5⟩ := ha5.own.sl.form
                    have hnb : (Value.slice lA k lc).ownBlock ≠ some xb := HOW.out.ne HR10.out.blk (by decide)
                    have B5 : Blk w5 xb rtT #[.slice lA k lc, .slice none 0 0, .bool false] := ha5.fr.blk (by first | exact HR10.out.blk.alloc _ | exact (HR10.out.blk.alloc _).drew) hnb
                    have k4 : w5.cell? ⟨xb, 0, none⟩ = some (.slice lA k lc) := B5.cell 0
                    have q4 := B5.frozen 0
                    have klt := B5.lt)
                  all_goals
                    have HRS : Hid (RdT w (w5.setCell ⟨xb, 0, none⟩ (.slice A5 (k + 1) cc5)) xb (.slice A5 (k + 1) cc5) (R ++ [z])) :=
                      HR10.out.snoc HRL.out (((Below.refl w10.heap.size w10).alloc (Nat.le_refl _) _).drewN 1) (by
                        rw [HZ.out]
                        have h1 := HX10.out.k8
                        have h2 := HRI.out
                        rw [HKN.out] at h2
                        exact ⟨HX10.out.kk.lower HWO.out, HX10.out.aa.lower HWO.out, h1.1, h1.2, h2.1.1, h2.2.1⟩) ha5
                    clear ha5 B5 hnb HX10 HR10 HOW HSL c0 c1 c2 c3 c4 c5 c6 c7 c8 c9 t0 t0f
                    go_wp2_with fail
                    go_roundw
                    case rel => exact ⟨(k + 1 : Nat), a', true, _, R ++ [z], by omega, by first | rfl | simp, rfl, by first | rfl | simp, HNY.out, HRS.out⟩
                    case measure => simp [intOf]; omega


  · obtain rfl : k = n := by omega
    cases ok
    · have HNO : Hid (∀ M, ¬ DecT D M) := HP.out.done.2 (fun h9 => by cases h9.1)
      go_wp2_with fail
      go_ret2
      exact .inr ⟨HNO.out, ⟨_, rfl⟩, HR.out.bl⟩
    · by_cases hae : a = m
      · obtain ⟨M, hM1, hM2⟩ := HP.out.done.1 ⟨rfl, by rw [← HVN.out]; exact hae⟩
        have HM1 := hide hM1
        have HM2 := hide hM2
        have e1 : ((a : Int) == (m : Int)) = true := by rw [hae]; simp
        clear hae hM1 hM2
        go_wp2_with fail
        go_ret2
        exact .inl ⟨M, xb, lv, R, HM1.out, HM2.out, rfl, HR.out⟩
      · have HNO : Hid (∀ M, ¬ DecT D M) := HP.out.done.2 (fun h9 => hae (by rw [HVN.out]; exact h9.2))
        have e1 : ((a : Int) == (m : Int)) = false := by rw [beq_eq_false_iff_ne]; omega
        clear hae
        go_wp2_with fail
        go_ret2
        exact .inr ⟨HNO.out, ⟨_, rfl⟩, HR.out.bl⟩
end Go.Proofs.Ytkobaidamdffmaa
