/- The reference of layer 16: Set. / The reference of layer 16: Due. / timers.Heap: Of's closure; slices.IndexFunc at it. -/
import Derived.Test.YtogelnljkdcajaaQTimersPlays10
import Derived.Test.YtogelnljkdcajaaQTimersPlays07
import Derived.Test.YtogelnljkdcajaaQTimersPlays09

namespace Go.Proofs.Ytogelnljkdcajaa
open Go.RowKit Go.Sort
set_option linter.unusedVariables false
set_option linter.unusedSimpArgs false

/-- put into a list in order -/
def insX : List TV → TV → List TV
  | [], t => [t]
  | y :: Y, t => if ltT t y = true then t :: y :: Y else y :: insX Y t
def setX (X : List TV) (t : TV) : List TV := insX (canX X t) t
theorem insX_len (Y : List TV) (t : TV) : (insX Y t).length = Y.length + 1 := by
  induction Y with
  | nil => rfl
  | cons y Y ih =>
    unfold insX
    split
    · simp
    · simp [ih]
/-- how far the loop is -/
def InsS (t : TV) (Y : List TV) (k : Nat) (O : List TV) (pb : Bool) : Prop :=
  if pb = true then O ++ Y.drop k = insX Y t else (O = Y.take k ∧ insX Y t = Y.take k ++ insX (Y.drop k) t)
theorem InsS.zero (t : TV) (Y : List TV) : InsS t Y 0 [] false := by
  unfold InsS
  rw [if_neg (by simp)]
  simp
theorem InsS.next {t : TV} {Y O : List TV} {k : Nat} {pb : Bool} (h : InsS t Y k O pb) (hk : k < Y.length) (hc : (!pb && ltT t Y[k]) = false) : InsS t Y (k + 1) (O ++ [Y[k]]) pb := by
  unfold InsS at *
  cases pb
  · rw [if_neg (by simp)] at *
    obtain ⟨h1, h2⟩ := h
    refine ⟨by rw [h1, List.take_succ_eq_append_getElem hk], ?_⟩
    rw [h2, List.drop_eq_getElem_cons hk, insX, if_neg (by simpa using hc), List.take_succ_eq_append_getElem hk, List.append_assoc]
    rfl
  · rw [if_pos rfl] at *
    rw [← h, List.drop_eq_getElem_cons hk, List.append_assoc]
    rfl
theorem InsS.put {t : TV} {Y O : List TV} {k : Nat} {pb : Bool} (h : InsS t Y k O pb) (hk : k < Y.length) (hc : (!pb && ltT t Y[k]) = true) : InsS t Y (k + 1) ((O ++ [t]) ++ [Y[k]]) true := by
  unfold InsS at *
  cases pb
  · rw [if_neg (by simp)] at h
    rw [if_pos rfl]
    obtain ⟨h1, h2⟩ := h
    rw [h2, h1, List.drop_eq_getElem_cons hk, insX, if_pos (by simpa using hc)]
    simp
  · simp at hc
theorem InsS.fin {t : TV} {Y O : List TV} {k : Nat} {pb : Bool} (h : InsS t Y k O pb) (hk : Y.length ≤ k) : if pb = true then O = insX Y t else O ++ [t] = insX Y t := by
  unfold InsS at h
  cases pb
  · rw [if_neg (by simp)] at *
    obtain ⟨h1, h2⟩ := h
    rw [h2, List.drop_eq_nil_of_le hk, h1]
    rfl
  · rw [if_pos rfl] at *
    rw [List.drop_eq_nil_of_le hk] at h
    simpa using h

structure InsF (w wr : World) (t3 : Nat) (t : TV) (Y O : List TV) (v yv : Value) : Prop where
  own : Own wr w.heap.size rtT 5 v O.length (tms O)
  yo : Own wr w.heap.size rtT 5 yv Y.length (tms Y)
  ap : ∀ g, v.ownBlock = some g → yv.ownBlock ≠ some g
  bt : Blk wr t3 rtT t.cells.toArray
  at_ : v.ownBlock ≠ some t3
  bl : Below w.heap.size w wr
theorem InsF.below {w wr wz : World} {t3 : Nat} {t : TV} {Y O : List TV} {v yv : Value} (h : InsF w wr t3 t Y O v yv) (q : Below wr.heap.size wr wz) : InsF w wz t3 t Y O v yv :=
  ⟨h.own.below q, h.yo.below q, h.ap, h.bt.below q h.bt.lt, h.at_, h.bl.trans (q.mono h.bl.size)⟩
theorem InsF.app {w wr wz : World} {t3 : Nat} {t x : TV} {Y O : List TV} {v yv v' : Value} (h : InsF w wr t3 t Y O v yv) (ha : App wr w.heap.size rtT 5 v (O.length + 1) (tms O ++ tms [x]) v' wz) : InsF w wz t3 t Y (O ++ [x]) v' yv := by
  refine ⟨by rw [tms_app, List.length_append]; exact ha.own, h.yo.fr ha.fr (fun g hg e => h.ap g e hg), fun g hg e => ?_, ha.fr.blk h.bt h.at_, fun e => ?_, h.bl.trans (ha.fr.below h.bl.size (fun j hj e => by have := (h.own.lt j e).1; omega))⟩
  · rcases ha.at_ with h9 | h9
    · exact h.ap g (h9 ▸ hg) e
    · have h8 := h9.symm.trans hg
      injection h8 with h8
      have := (h.yo.lt g e).2
      omega
  · rcases ha.at_ with h9 | h9
    · exact h.at_ (h9 ▸ e)
    · have h8 := h9.symm.trans e
      injection h8 with h8
      have := h.bt.lt
      omega

set_option maxRecDepth 100000 in
set_option maxHeartbeats 8000000 in
theorem rset_any (v : Value) (X : List TV) (t : TV) (w : World) (hs : Sl w w.heap.size v 5 X.length (tms X)) (hx : ∀ x ∈ X, KeyIn w w.heap.size x) (ht : KeyIn w w.heap.size t) (hX : X.length ≤ 900000) :
    Calls Try.prog 19 #[v, .agg t.cells.toArray] w fun e w' => ∃ (A : Option Addr) (c : Nat), e = .returned (.slice A (setX X t).length c) ∧
      Own w' w.heap.size rtT 5 (.slice A (setX X t).length c) (setX X t).length (tms (setX X t)) ∧ Below w.heap.size w w' := by
  obtain ⟨sA, sc, rfl, hsc⟩ := hs.form
  have HS := hide hs
  have HX := hide hx
  have HT := hide ht
  obtain ⟨tA, tc, htk, htc⟩ := ht.sl.form
  obtain ⟨T, hT⟩ : ∃ T, T = t := ⟨_, rfl⟩
  have HTT := hide hT
  rw [← hT] at HT ⊢
  clear hT hs hx ht
  obtain ⟨ta, tk, tb, tf, tt, tw⟩ := t
  simp only at htk htc
  subst htk
  obtain ⟨tn, htn⟩ : ∃ tn, tn = tb.length := ⟨_, rfl⟩
  have hTc : T.cells.toArray = #[.int .i64 ta, .slice tA tn tc, .int .i64 tf, .int .i64 tt, .int .i64 tw] := by rw [HTT.out, htn]; rfl
  have HTm : Hid (tms [T] = [.int .i64 ta, .slice tA tn tc, .int .i64 tf, .int .i64 tt, .int .i64 tw]) := by show _ = _; rw [HTT.out, htn]; rfl
  rw [← htn] at htc
  have HTC := hide hTc
  have HB1 : Hid (Below w.heap.size w (w.alloc (.cells #[.int .i64 ta, .slice tA tn tc, .int .i64 tf, .int .i64 tt, .int .i64 tw] rtT))) := (Below.refl _ _).alloc (Nat.le_refl _) _
  have HP1 : Hid (Blk (w.alloc (.cells #[.int .i64 ta, .slice tA tn tc, .int .i64 tf, .int .i64 tt, .int .i64 tw] rtT)) w.heap.size rtT T.cells.toArray) := by show Blk _ _ _ _; rw [hTc]; exact Blk.new w rtT _
  have HCAN : Hid (Calls Try.prog 20 #[.slice sA X.length sc, .agg #[.int .i64 ta, .slice tA tn tc, .int .i64 tf, .int .i64 tt, .int .i64 tw]] (w.alloc (.cells #[.int .i64 ta, .slice tA tn tc, .int .i64 tf, .int .i64 tt, .int .i64 tw] rtT)) fun e w' => ∃ (A : Option Addr) (c gn gc : Nat) (gA : Option Addr) (ga gf gt_ gw : Int), e = .returned (.tuple #[.slice A (canX X T).length c, .agg #[.int .i64 ga, .slice gA gn gc, .int .i64 gf, .int .i64 gt_, .int .i64 gw], .bool (wasX X T)]) ∧
      Own w' w.heap.size rtT 5 (.slice A (canX X T).length c) (canX X T).length (tms (canX X T)) ∧ (∀ g, (Value.slice A (canX X T).length c).ownBlock = some g → w.heap.size < g) ∧ Below (w.heap.size + 1) (w.alloc (.cells #[.int .i64 ta, .slice tA tn tc, .int .i64 tf, .int .i64 tt, .int .i64 tw] rtT)) w') := by
    have hz : (w.alloc (.cells #[.int .i64 ta, .slice tA tn tc, .int .i64 tf, .int .i64 tt, .int .i64 tw] rtT)).heap.size = w.heap.size + 1 := by simp
    have h9 := rcan_any (.slice sA X.length sc) X T (w.alloc (.cells #[.int .i64 ta, .slice tA tn tc, .int .i64 tf, .int .i64 tt, .int .i64 tw] rtT)) ((HS.out.below HB1.out).mono HB1.out.size) (fun x hx => ((HX.out x hx).below HB1.out).mono HB1.out.size) ((HT.out.below HB1.out).mono HB1.out.size) (by omega)
    rw [hTc] at h9
    refine h9.mono ?_
    rintro e w' ⟨A, c, rfl, ho, hb⟩
    obtain ⟨gA, gn, gc, hg⟩ := goneX_kv X T (fun y hy => by obtain ⟨A, c, hk, _⟩ := (HX.out y hy).sl.form; exact ⟨A, _, c, hk⟩)
    obtain ⟨G, hG⟩ : ∃ G, G = goneX X T := ⟨_, rfl⟩
    rw [← hG] at hg ⊢
    obtain ⟨ga, gk, gb, gf, gt_, gw⟩ := G
    simp only at hg
    subst hg
    refine ⟨A, c, gn, gc, gA, ga, gf, gt_, gw, rfl, ho.lower (by simp), fun g hg9 => ?_, by rw [hz] at hb; exact hb⟩
    have := (ho.lt g hg9).1
    omega
  rw [hTc]
  have hYl := canX_len X T
  have HYM : Hid (∀ y ∈ canX X T, KeyIn w w.heap.size y) := fun y hy => HX.out y (canX_sub hy)
  have HSX : Hid (setX X T = insX (canX X T) T) := rfl
  clear htn hTc
  go_enter Try.func19, Try.ntmps19
  go_wp2_with fail
  refine HCAN.out.mono ?_
  clear HCAN
  rintro e w2 ⟨yA, yc, gn, gc, gA, ga, gf, gt_, gw, rfl, ho2, hgt2, hb2⟩
  obtain ⟨Y, hY⟩ : ∃ Y, Y = canX X T := ⟨_, rfl⟩
  rw [← hY] at ho2 hgt2 hYl HYM HSX ⊢
  obtain ⟨n, hn⟩ : ∃ n, n = Y.length := ⟨_, rfl⟩
  have HN := hide hn
  have hnl : n ≤ 900000 := by omega
  obtain ⟨t3, ht3⟩ : ∃ t3, t3 = w.heap.size := ⟨_, rfl⟩
  have HI0 : Hid (InsF w w2 t3 T Y [] (.slice none 0 0) (.slice yA n yc) ∧ InsS T Y 0 [] false) := by
    rw [hn, ht3]
    exact ⟨⟨Own.nil _ _ _ _, ho2, fun g hg => by simp [Value.ownBlock] at hg, HP1.out.below hb2 (by omega), by simp [Value.ownBlock], HB1.out.trans (hb2.mono (by omega))⟩, InsS.zero _ _⟩
  rw [← hn, ← ht3]
  clear hY hn ht3 ho2 hgt2 hb2 hYl HS HX HP1 HB1
  go_wp2_with fail
  go_loopw [5, 6, 7] (fun v b i wr => ∃ (k : Nat) (O : List TV) (pb : Bool), k ≤ n ∧ i = .int .i64 k ∧ b = .bool pb ∧ O.length ≤ k + pb.toNat ∧ Hid (InsF w wr t3 T Y O v (.slice yA n yc) ∧ InsS T Y k O pb)) (fun _ _ i _ => n - (intOf i).toNat)
  case atStart => exact ⟨0, [], false, Nat.zero_le _, rfl, rfl, Nat.zero_le _, HI0.out⟩
  case round =>
    obtain ⟨k, O, pb, hk, rfl, rfl, hOk9, HI⟩ := hrel
    have hOk : O.length ≤ k + 1 := by cases pb <;> simp at hOk9 <;> omega
    have HOK9 := hide hOk9
    clear hOk9
    have HST : Hid (∀ W : World, Sl (W.alloc (.cells #[.int .i64 ta, .slice tA tn tc, .int .i64 tf, .int .i64 tt, .int .i64 tw] rtT)) (W.heap.size + 1) (.slice (some ⟨W.heap.size, 0, none⟩) 1 1) 5 1 (tms [T])) := fun W => by
      rw [HTm.out]
      exact Sl.of_own (Own.new (n := 1) (sz := 5) (e := rtT) (base := 0) W #[.int .i64 ta, .slice tA tn tc, .int .i64 tf, .int .i64 tt, .int .i64 tw] (by omega) (by omega) rfl) |>.mono (by simp)
    have HOKT : Hid (∀ u ∈ tms [T], u.oneCell' = true) := by
      intro u hu
      rw [HTm.out] at hu
      simp only [List.mem_cons, List.not_mem_nil, or_false] at hu
      rcases hu with rfl | rfl | rfl | rfl | rfl <;> rfl
    by_cases hlt : k < n
    · have hkY : k < Y.length := by rw [← HN.out]; exact hlt
      have HYO : Hid (∀ Z : World, Own Z w.heap.size rtT 5 (.slice yA n yc) Y.length (tms Y) → Sl Z Z.heap.size (.slice yA n yc) 5 n (tms Y)) := fun Z hZ => by have h9 := hZ.sl; rw [← HN.out] at h9; exact h9
      obtain ⟨ad, rfl, hab, a0, a1, a2, a3, a4⟩ := tm_at (HYO.out wr HI.out.1.yo) hlt HN.out.symm
      have HXM := hide (HYM.out _ (List.getElem_mem hkY))
      obtain ⟨x, hx⟩ : ∃ x, x = Y[k] := ⟨_, rfl⟩
      rw [← hx] at a0 a1 a2 a3 a4 HXM
      have HXI := hide hx
      clear hx
      have hzr := HI.out.1.bl.size
      obtain ⟨r1, hr1⟩ : ∃ r1, r1 = ltT T x := ⟨_, rfl⟩
      have HR1 := hide hr1
      have HLS : Hid (∀ Z : World, Below wr.heap.size wr Z → Calls Try.prog 37 #[.agg T.cells.toArray, .agg x.cells.toArray] Z fun e w' => e = .returned (.bool r1) ∧ Below Z.heap.size Z w') := by
        intro Z hZ
        have hwZ : Below w.heap.size w Z := HI.out.1.bl.trans (hZ.mono hzr)
        rw [hr1]
        exact rlessT_any T x w.heap.size Z (HT.out.below hwZ) (HXM.out.below hwZ) hwZ.size
      clear hr1
      obtain ⟨xA, xc, hkx, hxc⟩ := HXM.out.sl.form
      obtain ⟨xa, xk, xb, xf, xt, xw⟩ := x
      simp only at hkx hxc a0 a1 a2 a3 a4
      subst hkx
      rw [HTC.out] at HLS
      unfold TV.cells at HLS
      simp only at HLS
      have hbt := HI.out.1.bt
      rw [HTC.out] at hbt
      have HBT := hide hbt
      have hp := hbt.lt
      clear hbt
      have y0 := Aft.cell (HBT.out.cell 0) hp
      have y1 := Aft.cell (HBT.out.cell 1) hp
      have y2 := Aft.cell (HBT.out.cell 2) hp
      have y3 := Aft.cell (HBT.out.cell 3) hp
      have y4 := Aft.cell (HBT.out.cell 4) hp
      simp at y0 y1 y2 y3 y4
      have b0 := Aft.cell a0 hab
      have b1 := Aft.cell a1 hab
      have b2 := Aft.cell a2 hab
      have b3 := Aft.cell a3 hab
      have b4 := Aft.cell a4 hab
      have i0 : (0 : Int) ≤ (k : Int) := by omega
      have i1 : (k : Int) < (n : Int) := by omega
      go_upto_region 7 with fail
      go_cut [5, 6, 7, 30] from 15 to 41 (fun v b i c wx => v = u5 ∧ b = .bool pb ∧ i = .int .i64 k ∧ ∃ hh : Bool, c = .bool hh ∧ Hid (hh = (!pb && r1)) ∧ Hid (InsF w wx t3 T Y O u5 (.slice (some ad) n yc)))
      case first =>
        cases pb
        all_goals
          refine wp_region_aft (by kernel_rfl) (by kernel_rfl) ?_
          repeat (go_big_quiet_step (first
            | (go_at_call 37; with_reducible exact calls_aft (HLS.out _ (Aft.h _)))))
          refine wpQuiet_nil ?_
          intro w9 hb9
          go_wp2_with fail
          go_meet
          case rel => exact ⟨rfl, rfl, rfl, _, rfl, (by show _ = _; simp), HI.out.1.below hb9⟩
      case rest =>
        obtain ⟨rfl, rfl, rfl, hh, rfl, HH, HK⟩ := hcut
        have HSS := hide HI.out.2
        clear HI HBT HLS y0 y1 y2 y3 y4 b0 b1 b2 b3 b4 a0 a1 a2 a3 a4 hab hzr hp
        obtain ⟨ad', had, hab, a0, a1, a2, a3, a4⟩ := tm_at (HYO.out wc HK.out.yo) hlt HN.out.symm
        injection had with had
        subst had
        rw [← HXI.out] at a0 a1 a2 a3 a4
        have hzr := HK.out.bl.size
        have HSX1 : Hid (∀ W : World, Sl (W.alloc (.cells #[.int .i64 xa, .slice xA xb.length xc, .int .i64 xf, .int .i64 xt, .int .i64 xw] rtT)) (W.heap.size + 1) (.slice (some ⟨W.heap.size, 0, none⟩) 1 1) 5 1 (tms [⟨xa, .slice xA xb.length xc, xb, xf, xt, xw⟩])) := fun W =>
          Sl.of_own (Own.new (n := 1) (sz := 5) (e := rtT) (base := 0) W #[.int .i64 xa, .slice xA xb.length xc, .int .i64 xf, .int .i64 xt, .int .i64 xw] (by omega) (by omega) rfl) |>.mono (by simp)
        have HOKX : Hid (∀ u ∈ tms [⟨xa, .slice xA xb.length xc, xb, xf, xt, xw⟩], u.oneCell' = true) := tms_ok _ (by intro u hu; simp only [List.mem_singleton] at hu; subst hu; rfl)
        obtain ⟨oA, oc, rfl, hoc⟩ := HK.out.own.sl.form
        cases hh
        · have HK4 : Hid (∀ cs, InsF w (wc.alloc (.cells cs rtT)) t3 T Y O (.slice oA O.length oc) (.slice (some ad) n yc)) := fun cs => HK.out.below ((Below.refl _ _).alloc (Nat.le_refl _) _)
          have HS5 : Hid (InsS T Y (k + 1) (O ++ [⟨xa, .slice xA xb.length xc, xb, xf, xt, xw⟩]) pb) := by
            have h9 := HSS.out.next hkY (by rw [← HXI.out, ← HR1.out]; exact HH.out.symm)
            rw [← HXI.out] at h9
            exact h9
          go_wp2_with (at_builtin; refine wpList_app rfl tyRT (.tmp 35) (.tmp 40) rfl w.heap.size (n := (O).length) (m := 1) (B := wc.heap.size + 1) (xs := tms (O)) (news := tms [⟨xa, .slice xA xb.length xc, xb, xf, xt, xw⟩]) rfl rfl (by exact (HK4.out _).own) (by exact HSX1.out wc) HOKX.out (by omega) (by omega) (by simp; omega) ?_)
          intro v5 w5 ha5
          have HK5 : Hid (InsF w w5 t3 T Y (O ++ [⟨xa, .slice xA xb.length xc, xb, xf, xt, xw⟩]) v5 (.slice (some ad) n yc)) := (HK4.out _).app ha5
          clear ha5
          go_wp2_with fail
          go_roundw
          case rel => exact ⟨k + 1, _, pb, by omega, by simp, rfl, by have := HOK9.out; simp; omega, HK5.out, HS5.out⟩
          case measure => simp [intOf]; omega
        · have hpb : pb = false := by
            cases pb
            · rfl
            · exact absurd HH.out (by simp)
          subst hpb
          have hO1 : O.length ≤ k := by have := HOK9.out; simpa using this
          have hbt := HK.out.bt
          rw [HTC.out] at hbt
          have y0 : wc.cell? ⟨t3, 0, none⟩ = some (.int .i64 ta) := hbt.cell 0
          have y1 : wc.cell? ⟨t3, 1, none⟩ = some (.slice tA tn tc) := hbt.cell 1
          have y2 : wc.cell? ⟨t3, 2, none⟩ = some (.int .i64 tf) := hbt.cell 2
          have y3 : wc.cell? ⟨t3, 3, none⟩ = some (.int .i64 tt) := hbt.cell 3
          have y4 : wc.cell? ⟨t3, 4, none⟩ = some (.int .i64 tw) := hbt.cell 4
          have hp := hbt.lt
          clear hbt
          have HS5 : Hid (InsS T Y (k + 1) ((O ++ [T]) ++ [⟨xa, .slice xA xb.length xc, xb, xf, xt, xw⟩]) true) := by
            have h9 := HSS.out.put hkY (by rw [← HXI.out, ← HR1.out]; exact HH.out.symm)
            rw [← HXI.out] at h9
            exact h9
          have HK4 : Hid (∀ cs, InsF w (wc.alloc (.cells cs rtT)) t3 T Y O (.slice oA O.length oc) (.slice (some ad) n yc)) := fun cs => HK.out.below ((Below.refl _ _).alloc (Nat.le_refl _) _)
          have hO2 : O.length + 1 ≤ n + 2 := by omega
          go_wp2_with (at_builtin; refine wpList_app rfl tyRT (.tmp 31) (.tmp 33) rfl w.heap.size (n := (O).length) (m := 1) (B := wc.heap.size + 1) (xs := tms (O)) (news := tms [T]) rfl rfl (by exact (HK4.out _).own) (by exact HST.out wc) HOKT.out (by omega) (by omega) (by simp; omega) ?_)
          intro v5 w5 ha5
          have HK5 : Hid (InsF w w5 t3 T Y (O ++ [T]) v5 (.slice (some ad) n yc)) := (HK4.out _).app ha5
          clear ha5
          obtain ⟨pA, pc, rfl, hpc⟩ := HK5.out.own.sl.form
          obtain ⟨m1, hm1⟩ : ∃ m1, m1 = (O ++ [T]).length := ⟨_, rfl⟩
          have hm2 : m1 ≤ n + 2 := by rw [hm1, List.length_append]; simp; omega
          rw [← hm1] at hpc
          have HM1 := hide hm1
          clear a0 a1 a2 a3 a4 hab hzr y0 y1 y2 y3 y4 hp
          obtain ⟨ad', had, hab, a0, a1, a2, a3, a4⟩ := tm_at (HYO.out w5 HK5.out.yo) hlt HN.out.symm
          injection had with had
          subst had
          rw [← HXI.out] at a0 a1 a2 a3 a4
          have hzr := HK5.out.bl.size
          have HK6 : Hid (∀ cs, InsF w (w5.alloc (.cells cs rtT)) t3 T Y (O ++ [T]) (.slice pA m1 pc) (.slice (some ad) n yc) ∧ Own (w5.alloc (.cells cs rtT)) w.heap.size rtT 5 (.slice pA m1 pc) m1 (tms (O ++ [T]))) := fun cs => by
            have h9 := HK5.out.below ((Below.refl _ _).alloc (Nat.le_refl _) (.cells cs rtT))
            rw [← HM1.out] at h9
            have h8 := h9.own
            rw [← HM1.out] at h8
            exact ⟨h9, h8⟩
          rw [← hm1]
          clear hm1
          go_wp2_with (at_builtin; refine wpList_app rfl tyRT (.tmp 35) (.tmp 40) rfl w.heap.size (n := m1) (m := 1) (B := w5.heap.size + 1) (xs := tms (O ++ [T])) (news := tms [⟨xa, .slice xA xb.length xc, xb, xf, xt, xw⟩]) rfl rfl (by exact (HK6.out _).2) (by exact HSX1.out w5) HOKX.out (by omega) (by omega) (by simp; omega) ?_)
          intro v6 w6 ha6
          have HK7 : Hid (InsF w w6 t3 T Y ((O ++ [T]) ++ [⟨xa, .slice xA xb.length xc, xb, xf, xt, xw⟩]) v6 (.slice (some ad) n yc)) := (HK6.out _).1.app (by rw [← HM1.out]; exact ha6)
          clear ha6
          go_wp2_with fail
          go_roundw
          case rel => exact ⟨k + 1, _, true, by omega, by simp, rfl, by simp; omega, HK7.out, HS5.out⟩
          case measure => simp [intOf]; omega
    · have HF := hide (HI.out.2.fin (by rw [← HN.out]; omega))
      have HK := hide HI.out.1
      have hzr := HI.out.1.bl.size
      clear HI
      obtain ⟨oA, oc, rfl, hoc⟩ := HK.out.own.sl.form
      cases pb
      · have HO : Hid (O ++ [T] = insX Y T) := HF.out
        have hbt := HK.out.bt
        rw [HTC.out] at hbt
        have y0 : wr.cell? ⟨t3, 0, none⟩ = some (.int .i64 ta) := hbt.cell 0
        have y1 : wr.cell? ⟨t3, 1, none⟩ = some (.slice tA tn tc) := hbt.cell 1
        have y2 : wr.cell? ⟨t3, 2, none⟩ = some (.int .i64 tf) := hbt.cell 2
        have y3 : wr.cell? ⟨t3, 3, none⟩ = some (.int .i64 tt) := hbt.cell 3
        have y4 : wr.cell? ⟨t3, 4, none⟩ = some (.int .i64 tw) := hbt.cell 4
        have hp := hbt.lt
        clear hbt
        have HK4 : Hid (∀ cs, InsF w (wr.alloc (.cells cs rtT)) t3 T Y O (.slice oA O.length oc) (.slice yA n yc)) := fun cs => HK.out.below ((Below.refl _ _).alloc (Nat.le_refl _) _)
        have hO2 : O.length + 1 ≤ n + 2 := by omega
        go_wp2_with (at_builtin; refine wpList_app rfl tyRT (.tmp 44) (.tmp 46) rfl w.heap.size (n := O.length) (m := 1) (B := wr.heap.size + 1) (xs := tms O) (news := tms [T]) rfl rfl (by exact (HK4.out _).own) (by exact HST.out wr) HOKT.out (by omega) (by omega) (by simp; omega) ?_)
        intro v5 w5 ha5
        have HK5 : Hid (InsF w w5 t3 T Y (O ++ [T]) v5 (.slice yA n yc)) := (HK4.out _).app ha5
        clear ha5
        obtain ⟨pA, pc, rfl, hpc⟩ := HK5.out.own.sl.form
        go_wp2_with fail
        go_ret
        rw [HSX.out, ← HO.out]
        exact ⟨pA, pc, rfl, HK5.out.own, HK5.out.bl⟩
      · have HO : Hid (O = insX Y T) := HF.out
        go_wp2_with fail
        go_ret
        rw [HSX.out, ← HO.out]
        exact ⟨oA, oc, rfl, HK.out.own, HK.out.bl⟩

end Go.Proofs.Ytogelnljkdcajaa

namespace Go.Proofs.Ytogelnljkdcajaa
open Go.RowKit Go.Sort
set_option linter.unusedVariables false
set_option linter.unusedSimpArgs false

def dueX (X : List TV) (now : Int) : List TV := X.filter (fun y => decide (y.a ≤ now))
def lateX (X : List TV) (now : Int) : List TV := X.filter (fun y => !decide (y.a ≤ now))
structure DueK (w wr : World) (X : List TV) (now : Int) (k : Nat) (O Q : List TV) (v u : Value) : Prop where
  o1 : Own wr w.heap.size rtT 5 v O.length (tms O)
  o2 : Own wr w.heap.size rtT 5 u Q.length (tms Q)
  e1 : O = dueX (X.take k) now
  e2 : Q = lateX (X.take k) now
  ap : ∀ g, v.ownBlock = some g → u.ownBlock ≠ some g
  bl : Below w.heap.size w wr
section
variable {w wr wz : World} {X O Q : List TV} {now : Int} {k : Nat} {v u v' : Value} {x : TV}
theorem DueK.below (h : DueK w wr X now k O Q v u) (q : Below wr.heap.size wr wz) : DueK w wz X now k O Q v u :=
  ⟨h.o1.below q, h.o2.below q, h.e1, h.e2, h.ap, h.bl.trans (q.mono h.bl.size)⟩
theorem DueK.app1 (h : DueK w wr X now k O Q v u) (hX : X.take (k + 1) = X.take k ++ [x]) (hx : x.a ≤ now) (ha : App wr w.heap.size rtT 5 v (O.length + 1) (tms O ++ tms [x]) v' wz) : DueK w wz X now (k + 1) (O ++ [x]) Q v' u := by
  refine ⟨by rw [tms_app, List.length_append]; exact ha.own, h.o2.fr ha.fr (fun g hg e => h.ap g e hg), ?_, ?_, fun g hg e => ?_, h.bl.trans (ha.fr.below h.bl.size (fun j hj e => by have := (h.o1.lt j e).1; omega))⟩
  · rw [hX]; unfold dueX; rw [List.filter_append, h.e1]; simp [hx]; rfl
  · rw [hX]; unfold lateX; rw [List.filter_append, h.e2]; simp [hx]; rfl
  · rcases ha.at_ with h9 | h9
    · exact h.ap g (h9 ▸ hg) e
    · have h8 := h9.symm.trans hg
      injection h8 with h8
      have := (h.o2.lt g e).2
      omega
theorem DueK.app2 (h : DueK w wr X now k O Q v u) (hX : X.take (k + 1) = X.take k ++ [x]) (hx : ¬ x.a ≤ now) (ha : App wr w.heap.size rtT 5 u (Q.length + 1) (tms Q ++ tms [x]) v' wz) : DueK w wz X now (k + 1) O (Q ++ [x]) v v' := by
  refine ⟨h.o1.fr ha.fr (fun g hg e => h.ap g hg e), by rw [tms_app, List.length_append]; exact ha.own, ?_, ?_, fun g hg e => ?_, h.bl.trans (ha.fr.below h.bl.size (fun j hj e => by have := (h.o2.lt j e).1; omega))⟩
  · rw [hX]; unfold dueX; rw [List.filter_append, h.e1]; simp [hx]; rfl
  · rw [hX]; unfold lateX; rw [List.filter_append, h.e2]; simp [hx]; rfl
  · rcases ha.at_ with h9 | h9
    · exact h.ap g hg (h9 ▸ e)
    · have h8 := h9.symm.trans e
      injection h8 with h8
      have := (h.o1.lt g hg).2
      omega
end

set_option maxRecDepth 100000 in
set_option maxHeartbeats 8000000 in
theorem rdue_any (v : Value) (X : List TV) (now : Int) (w : World) (hs : Sl w w.heap.size v 5 X.length (tms X)) (hx : ∀ x ∈ X, KeyIn w w.heap.size x) (hX : X.length ≤ 1000000) :
    Calls Try.prog 21 #[v, .int .i64 now] w fun e w' => ∃ (A A' : Option Addr) (c c' : Nat), e = .returned (.tuple #[.slice A (dueX X now).length c, .slice A' (lateX X now).length c']) ∧
      Own w' w.heap.size rtT 5 (.slice A (dueX X now).length c) (dueX X now).length (tms (dueX X now)) ∧ Own w' w.heap.size rtT 5 (.slice A' (lateX X now).length c') (lateX X now).length (tms (lateX X now)) ∧ Below w.heap.size w w' := by
  obtain ⟨sA, sc, rfl, hsc⟩ := hs.form
  have hmax := hs.max
  have HS := hide hs
  have HX := hide hx
  clear hs hx
  obtain ⟨n, hn⟩ : ∃ n, n = X.length := ⟨_, rfl⟩
  rw [← hn] at HS hsc hmax hX ⊢
  have HN := hide hn
  have HI0 : Hid (DueK w w X now 0 [] [] (.slice none 0 0) (.slice none 0 0)) := ⟨Own.nil _ _ _ _, Own.nil _ _ _ _, rfl, rfl, fun g hg => by simp [Value.ownBlock] at hg, Below.refl _ _⟩
  clear hn
  go_enter Try.func21, Try.ntmps21
  go_wp2_with fail
  go_loopw [6, 7, 8] (fun v u i wr => ∃ (k : Nat) (O Q : List TV), k ≤ n ∧ i = .int .i64 k ∧ O.length + Q.length ≤ k ∧ Hid (DueK w wr X now k O Q v u)) (fun _ _ i _ => n - (intOf i).toNat)
  case atStart => exact ⟨0, [], [], Nat.zero_le _, rfl, Nat.le_refl _, HI0.out⟩
  case round =>
    obtain ⟨k, O, Q, hk, rfl, hOk, HI⟩ := hrel
    by_cases hlt : k < n
    · have hkX : k < X.length := by rw [← HN.out]; exact hlt
      obtain ⟨ad, rfl, hab, a0, a1, a2, a3, a4⟩ := tm_at (HS.out.below HI.out.bl) hlt HN.out.symm
      have hzr := HI.out.bl.size
      have hab2 : (ad.add (k * 5)).block < wr.heap.size := by omega
      have HXM := hide (HX.out _ (List.getElem_mem hkX))
      have HTK := hide (List.take_succ_eq_append_getElem hkX)
      generalize X[k] = x at a0 a1 a2 a3 a4 HXM HTK
      obtain ⟨xA, xc, hkx, hxc⟩ := HXM.out.sl.form
      obtain ⟨xa, xk, xb, xf, xt, xw⟩ := x
      simp only at hkx hxc a0 a1 a2 a3 a4
      subst hkx
      have HSL : Hid (∀ W : World, Sl (W.alloc (.cells #[.int .i64 xa, .slice xA xb.length xc, .int .i64 xf, .int .i64 xt, .int .i64 xw] rtT)) (W.heap.size + 1) (.slice (some ⟨W.heap.size, 0, none⟩) 1 1) 5 1 (tms [⟨xa, .slice xA xb.length xc, xb, xf, xt, xw⟩])) := fun W =>
        Sl.of_own (Own.new (n := 1) (sz := 5) (e := rtT) (base := 0) W #[.int .i64 xa, .slice xA xb.length xc, .int .i64 xf, .int .i64 xt, .int .i64 xw] (by omega) (by omega) rfl) |>.mono (by simp)
      have HOKX : Hid (∀ u ∈ tms [(⟨xa, .slice xA xb.length xc, xb, xf, xt, xw⟩ : TV)], u.oneCell' = true) := tms_ok _ (by intro u hu; simp only [List.mem_singleton] at hu; subst hu; rfl)
      obtain ⟨oA, oc, rfl, hoc⟩ := HI.out.o1.sl.form
      obtain ⟨qA, qc, rfl, hqc⟩ := HI.out.o2.sl.form
      have HK4 : Hid (∀ cs, DueK w (wr.alloc (.cells cs rtT)) X now k O Q (.slice oA O.length oc) (.slice qA Q.length qc)) := fun cs => HI.out.below ((Below.refl _ _).alloc (Nat.le_refl _) _)
      have i0 : (0 : Int) ≤ (k : Int) := by omega
      have i1 : (k : Int) < (n : Int) := by omega
      by_cases hdu : xa ≤ now
      · have HDU := hide hdu
        go_wp2_with (at_builtin; refine wpList_app rfl tyRT (.tmp 22) (.tmp 27) rfl w.heap.size (n := O.length) (m := 1) (B := wr.heap.size + 1) (xs := tms O) (news := tms [⟨xa, .slice xA xb.length xc, xb, xf, xt, xw⟩]) rfl rfl (by exact (HK4.out _).o1) (by exact HSL.out wr) HOKX.out (by omega) (by omega) (by simp; omega) ?_)
        intro v5 w5 ha5
        have HK5 : Hid (DueK w w5 X now (k + 1) (O ++ [⟨xa, .slice xA xb.length xc, xb, xf, xt, xw⟩]) Q v5 (.slice qA Q.length qc)) := (HK4.out _).app1 HTK.out HDU.out ha5
        clear ha5
        go_wp2_with fail
        go_roundw
        case rel => exact ⟨k + 1, _, Q, by omega, by simp, by simp; omega, HK5⟩
        case measure => simp [intOf]; omega
      · have HDU := hide hdu
        go_wp2_with (at_builtin; refine wpList_app rfl tyRT (.tmp 29) (.tmp 34) rfl w.heap.size (n := Q.length) (m := 1) (B := wr.heap.size + 1) (xs := tms Q) (news := tms [⟨xa, .slice xA xb.length xc, xb, xf, xt, xw⟩]) rfl rfl (by exact (HK4.out _).o2) (by exact HSL.out wr) HOKX.out (by omega) (by omega) (by simp; omega) ?_)
        intro v5 w5 ha5
        have HK5 : Hid (DueK w w5 X now (k + 1) O (Q ++ [⟨xa, .slice xA xb.length xc, xb, xf, xt, xw⟩]) (.slice oA O.length oc) v5) := (HK4.out _).app2 HTK.out (by have h9 := HDU.out; show ¬ xa ≤ now; omega) ha5
        clear ha5
        go_wp2_with fail
        go_roundw
        case rel => exact ⟨k + 1, O, _, by omega, by simp, by simp; omega, HK5⟩
        case measure => simp [intOf]; omega
    · have HE : Hid (X.take k = X) := List.take_of_length_le (by rw [← HN.out]; omega)
      have HEQ : Hid (O = dueX X now ∧ Q = lateX X now) := by have h1 := HI.out.e1; have h2 := HI.out.e2; rw [HE.out] at h1 h2; exact ⟨h1, h2⟩
      obtain ⟨oA, oc, rfl, hoc⟩ := HI.out.o1.sl.form
      obtain ⟨qA, qc, rfl, hqc⟩ := HI.out.o2.sl.form
      go_wp2_with fail
      go_ret2
      rw [← HEQ.out.1, ← HEQ.out.2]
      exact ⟨oA, qA, oc, qc, rfl, HI.out.o1, HI.out.o2, HI.out.bl⟩

end Go.Proofs.Ytogelnljkdcajaa

namespace Go.Proofs.Ytogelnljkdcajaa
open Go.RowKit Go.Sort
set_option linter.unusedVariables false
set_option linter.unusedSimpArgs false

/-- of another key -/
def offK (K : List Int) (f t : Int) (x : TV) : Bool := !decide (x.kb = K ∧ x.f = f ∧ x.t = t)
theorem wT_ne (f t f' t' : Int) (h : ¬ (f = f' ∧ t = t')) (W : World) : (binOp .neq wT (.agg #[.int .i64 f, .int .i64 t]) (.agg #[.int .i64 f', .int .i64 t'])).run Try.prog W = .ok (.bool true) W := by
  by_cases h1 : f = f'
  · have h2 : ¬ t = t' := fun h9 => h ⟨h1, h9⟩
    go_simp
  · go_simp
theorem wT_eq (f t : Int) (W : World) : (binOp .neq wT (.agg #[.int .i64 f, .int .i64 t]) (.agg #[.int .i64 f, .int .i64 t])).run Try.prog W = .ok (.bool false) W := by
  go_simp
/-- the key that a call looks for, in its box -/
structure KeyB (w : World) (B kb : Nat) (kA : Option Addr) (kc : Nat) (K : List Int) (f t : Int) : Prop where
  blk : Blk w kb keyT #[.slice kA K.length kc, .int .i64 f, .int .i64 t]
  sl : Sl w B (.slice kA K.length kc) 1 K.length (bys K)
  b8 : Bytes8 K
theorem KeyB.below {w w' : World} {B kb : Nat} {kA : Option Addr} {kc : Nat} {K : List Int} {f t : Int} (h : KeyB w B kb kA kc K f t) (k : Below w.heap.size w w') (hB : B ≤ w.heap.size) : KeyB w' B kb kA kc K f t := ⟨h.blk.below k h.blk.lt, h.sl.below (k.mono hB), h.b8⟩

set_option maxHeartbeats 4000000 in
theorem of1_any (x : TV) (B kb : Nat) (kA : Option Addr) (kc : Nat) (K : List Int) (f t : Int) (w : World) (hx : KeyIn w B x) (hk : KeyB w B kb kA kc K f t) (hB : B ≤ w.heap.size) :
    Calls Try.prog 40 #[.agg x.cells.toArray, .pointer (some ⟨kb, 0, none⟩)] w fun e w' => e = .returned (.bool (offK K f t x)) ∧ Below w.heap.size w w' := by
  obtain ⟨A, c, hkx, hc⟩ := hx.sl.form
  have hmk := hk.sl.inv.2.1
  obtain ⟨r, hr⟩ : ∃ r, r = offK K f t x := ⟨_, rfl⟩
  rw [← hr]
  have HX := hide hx
  have HK := hide hk
  have HR : Hid (r = !decide (x.kb = K ∧ x.f = f ∧ x.t = t)) := hr
  clear hr hx hk
  obtain ⟨xa, xk, xb, xf, xt, xw⟩ := x
  simp only at hkx hc HR
  subst hkx
  unfold TV.cells
  simp only
  have HP : Hid (Blk (w.alloc (.cells #[.int .i64 xa, .slice A xb.length c, .int .i64 xf, .int .i64 xt, .int .i64 xw] tmT)) w.heap.size tmT #[.int .i64 xa, .slice A xb.length c, .int .i64 xf, .int .i64 xt, .int .i64 xw]) := Blk.new w _ _
  have HB1 : Hid (Below w.heap.size w (w.alloc (.cells #[.int .i64 xa, .slice A xb.length c, .int .i64 xf, .int .i64 xt, .int .i64 xw] tmT))) := (Below.refl _ _).alloc (Nat.le_refl _) _
  have HXS := hide (HX.out.sl.below (HB1.out.mono hB))
  have HX8 := hide HX.out.b8
  have HK1 := hide (HK.out.below HB1.out hB)
  simp only at HXS HX8
  clear HX HK
  obtain ⟨n, hn⟩ : ∃ n, n = xb.length := ⟨_, rfl⟩
  obtain ⟨m, hm⟩ : ∃ m, m = K.length := ⟨_, rfl⟩
  have HN := hide hn
  have HM := hide hm
  rw [← hn] at HXS hc HP HB1 HK1 ⊢
  have HKB := hide HK1.out.blk
  have HKS := hide HK1.out.sl
  have HK8 := hide HK1.out.b8
  rw [← hm] at HKB HKS hmk
  clear hn hm HK1
  go_enter Try.func40, Try.ntmps40
  go_upto_region 1 with fail
  change Code.wp _ _ _ _ (w.alloc (.cells #[.int .i64 xa, .slice A n c, .int .i64 xf, .int .i64 xt, .int .i64 xw] tmT))
  generalize (w.alloc (.cells #[.int .i64 xa, .slice A n c, .int .i64 xf, .int .i64 xt, .int .i64 xw] tmT)) = w1 at *
  obtain ⟨pb, hpb⟩ : ∃ pb, pb = w.heap.size := ⟨_, rfl⟩
  rw [← hpb] at HP ⊢
  clear hpb
  have hp := HP.out.lt
  have hq := HKB.out.lt
  have p1 : w1.cell? ⟨pb, 1, none⟩ = some (.slice A n c) := HP.out.cell 1
  have p2 : w1.cell? ⟨pb, 2, none⟩ = some (.int .i64 xf) := HP.out.cell 2
  have p3 : w1.cell? ⟨pb, 3, none⟩ = some (.int .i64 xt) := HP.out.cell 3
  have q0 : w1.cell? ⟨kb, 0, none⟩ = some (.slice kA m kc) := HKB.out.cell 0
  have q1 : w1.cell? ⟨kb, 1, none⟩ = some (.int .i64 f) := HKB.out.cell 1
  have q2 : w1.cell? ⟨kb, 2, none⟩ = some (.int .i64 t) := HKB.out.cell 2
  go_wp2_with fail
  refine (bequal_any _ _ xb K n m B _ HXS.out HKS.out HN.out.symm HM.out.symm HX8.out HK8.out).mono ?_
  rintro e w2 ⟨rfl, rfl⟩
  by_cases h1 : xb = K
  · rw [decide_eq_true h1]
    by_cases h2 : xf = f ∧ xt = t
    · have HF : Hid (r = false) := by show _ = _; rw [HR.out]; simp [h1, h2]
      obtain ⟨h3, h4⟩ := h2
      clear h1 HR
      subst h3 h4
      have hne := wT_eq xf xt
      go_wp2_with fail
      go_ret
      rw [HF.out]
      exact ⟨rfl, HB1.out⟩
    · have HF : Hid (r = true) := by show _ = _; rw [HR.out]; simp only [h2]; simp
      have hne := wT_ne xf xt f t h2
      clear h1 h2 HR
      go_wp2_with fail
      go_ret
      rw [HF.out]
      exact ⟨rfl, HB1.out⟩
  · have HF : Hid (r = true) := by show _ = _; rw [HR.out]; simp [h1]
    rw [decide_eq_false h1]
    clear h1 HR
    go_wp2_with fail
    go_ret
    rw [HF.out]
    exact ⟨rfl, HB1.out⟩

set_option maxHeartbeats 4000000 in
theorem indexOf_any (v : Value) (D : List TV) (n B kb : Nat) (kA : Option Addr) (kc : Nat) (K : List Int) (f t : Int) (w : World) (hs : Sl w B v 5 n (tms D)) (hD : D.length = n) (hB : B ≤ w.heap.size) (hK : ∀ x ∈ D, KeyIn w B x) (hk : KeyB w B kb kA kc K f t) (hn : n ≤ 8796093022207) :
    Calls Try.prog 42 #[v, .func (.func 40) #[] #[.pointer (some ⟨kb, 0, none⟩)]] w fun e w' => (∃ r : Int, e = .returned (.int .i64 r) ∧ ((r = -1 ∧ ∀ x ∈ D, offK K f t x = false) ∨ ∃ k : Nat, r = (k : Int) ∧ ∃ h : k < D.length, offK K f t D[k] = true ∧ ∀ x ∈ D.take k, offK K f t x = false)) ∧ Below w.heap.size w w' := by
  obtain ⟨A, c, rfl, hc⟩ := hs.form
  have HS := hide hs
  have HD := hide hD
  have HK := hide hK
  have HKB := hide hk
  clear hs hD hK hk
  go_enter Try.func42, Try.ntmps42
  go_wp2_with fail
  go_loopw [8] (fun i wr => ∃ k : Nat, k ≤ n ∧ i = .int .i64 k ∧ Hid (∀ x ∈ D.take k, offK K f t x = false) ∧ Hid (Below w.heap.size w wr)) (fun i _ => n - (intOf i).toNat)
  case atStart => exact ⟨0, Nat.zero_le _, rfl, (fun x hx => by simp at hx), Below.refl _ _⟩
  case round =>
    obtain ⟨k, hk, rfl, HG, HB⟩ := hrel
    by_cases hlt : k < n
    · have hkD : k < D.length := by rw [HD.out]; exact hlt
      obtain ⟨ad, rfl, hab, g0, g1, g2, g3, g4⟩ := tm_at (HS.out.below (HB.out.mono hB)) hlt HD.out
      have hzr := HB.out.size
      have hab2 : (ad.add (k * 5)).block < wr.heap.size := by omega
      have HX : Hid (∀ x ∈ D.take (k + 1), x ∈ D.take k ∨ x = D[k]) := by
        intro x hx
        rw [List.take_succ_eq_append_getElem hkD] at hx
        rcases List.mem_append.1 hx with h9 | h9
        · exact .inl h9
        · exact .inr (List.mem_singleton.1 h9)
      have HM := hide (List.getElem_mem hkD)
      have HOFF := hide (fun (b : Bool) (h : b = offK K f t D[k]) => h)
      obtain ⟨x, hx⟩ : ∃ x, x = D[k] := ⟨_, rfl⟩
      have HXI := hide hx
      rw [← hx] at g0 g1 g2 g3 g4 HX HM
      clear HOFF hx
      have HS1 := hide (of1_any x B kb kA kc K f t wr ((HK.out x HM.out).below (HB.out.mono hB)) (HKB.out.below HB.out hB) (by omega))
      obtain ⟨bb, hbb⟩ : ∃ b, b = offK K f t x := ⟨_, rfl⟩
      have HBB := hide hbb
      rw [← hbb] at HS1
      clear hbb
      obtain ⟨xa, xk, xb, xf, xt, xw⟩ := x
      unfold TV.cells at HS1
      simp only at g0 g1 g2 g3 g4 HS1
      go_wp2_with fail
      refine HS1.out.mono ?_
      rintro e w2 ⟨rfl, hb⟩
      have HB2 := hide (HB.out.trans (hb.mono HB.out.size))
      clear hb
      cases bb
      · have HG2 : Hid (∀ x ∈ D.take (k + 1), offK K f t x = false) := by
          intro y hy
          rcases HX.out y hy with h9 | rfl
          · exact HG.out y h9
          · exact HBB.out.symm
        go_wp2_with fail
        go_roundw
        case rel => exact ⟨k + 1, by omega, by simp, HG2, HB2⟩
        case measure => simp [intOf]; omega
      · go_wp2_with fail
        go_ret
        refine ⟨⟨k, rfl, .inr ⟨k, rfl, hkD, ?_, HG.out⟩⟩, HB2.out⟩
        rw [← HXI.out]
        exact HBB.out.symm
    · have HG2 : Hid (∀ x ∈ D, offK K f t x = false) := by
        have h9 := HG.out
        rw [List.take_of_length_le (by rw [HD.out]; omega)] at h9
        exact h9
      go_wp2_with fail
      go_ret
      exact ⟨⟨-1, rfl, .inl ⟨rfl, HG2.out⟩⟩, HB.out⟩

end Go.Proofs.Ytogelnljkdcajaa
