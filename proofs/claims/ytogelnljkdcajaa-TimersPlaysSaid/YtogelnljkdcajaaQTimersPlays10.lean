/- The reference of layer 16: Cancel. -/
import Derived.Test.YtogelnljkdcajaaQTimersPlays07
import Derived.Deep.RegionHeld3

namespace Go.Proofs.Ytogelnljkdcajaa
open Go.RowKit Go.Sort
set_option linter.unusedVariables false
set_option linter.unusedSimpArgs false

/-- the same key and What? -/
def hit (t y : TV) : Bool := oneK y t && decide (y.w = t.w)
def canX (X : List TV) (t : TV) : List TV := X.filter (fun y => !hit t y)
def goneX (X : List TV) (t : TV) : TV := (X.filter (hit t)).getLast?.getD tz
def wasX (X : List TV) (t : TV) : Bool := X.any (hit t)
theorem canX_snoc (X : List TV) (t y : TV) : canX (X ++ [y]) t = if hit t y = true then canX X t else canX X t ++ [y] := by
  unfold canX
  rw [List.filter_append]
  by_cases h : hit t y = true
  · rw [if_pos h]; simp [h]
  · rw [if_neg h]; simp [h]
theorem goneX_snoc (X : List TV) (t y : TV) : goneX (X ++ [y]) t = if hit t y = true then y else goneX X t := by
  unfold goneX
  rw [List.filter_append]
  by_cases h : hit t y = true
  · rw [if_pos h]; simp [h]
  · rw [if_neg h]; simp [h]
theorem wasX_snoc (X : List TV) (t y : TV) : wasX (X ++ [y]) t = (wasX X t || hit t y) := by
  unfold wasX
  simp [List.any_append]
theorem canX_len (X : List TV) (t : TV) : (canX X t).length ≤ X.length := List.length_filter_le _ _
theorem canX_sub {X : List TV} {t y : TV} (h : y ∈ canX X t) : y ∈ X := (List.mem_filter.1 h).1
theorem goneX_kv (X : List TV) (t : TV) (h : ∀ y ∈ X, ∃ A n c, y.kv = .slice A n c) : ∃ A n c, (goneX X t).kv = .slice A n c := by
  unfold goneX
  cases hl : (X.filter (hit t)).getLast? with
  | none => exact ⟨none, 0, 0, rfl⟩
  | some y =>
    have := List.mem_of_getLast? hl
    exact h y (List.mem_filter.1 this).1

structure CanK (w wr : World) (g8 t3 g5 : Nat) (t : TV) (X : List TV) (k : Nat) (O : List TV) (v : Value) (b : Bool) : Prop where
  own : Own wr w.heap.size rtT 5 v O.length (tms O)
  eq : O = canX (X.take k) t
  was : b = wasX (X.take k) t
  bg : Blk wr g8 rtT (goneX (X.take k) t).cells.toArray
  bt : Blk wr t3 rtT t.cells.toArray
  b5 : Blk wr g5 rtT #[.int .i64 0, .slice none 0 0, .int .i64 0, .int .i64 0, .int .i64 0]
  bl : Below w.heap.size w wr
  ap : v.ownBlock ≠ some g8 ∧ v.ownBlock ≠ some t3 ∧ v.ownBlock ≠ some g5

theorem CanK.below {w wr wz : World} {g8 t3 g5 k : Nat} {t : TV} {X O : List TV} {v : Value} {b : Bool} (h : CanK w wr g8 t3 g5 t X k O v b) (q : Below wr.heap.size wr wz) : CanK w wz g8 t3 g5 t X k O v b :=
  ⟨h.own.below q, h.eq, h.was, h.bg.below q h.bg.lt, h.bt.below q h.bt.lt, h.b5.below q h.b5.lt, h.bl.trans (q.mono h.bl.size), h.ap⟩
theorem CanK.hit {w wr : World} {g8 t3 g5 k : Nat} {t x : TV} {X O : List TV} {v : Value} {b : Bool} (h : CanK w wr g8 t3 g5 t X k O v b) (hx : Go.Proofs.Ytogelnljkdcajaa.hit t x = true) (hX : X.take (k + 1) = X.take k ++ [x]) (hg : t3 ≠ g8 ∧ g5 ≠ g8 ∧ w.heap.size ≤ g8) : CanK w (put5 wr ⟨g8, 0, none⟩ x) g8 t3 g5 t X (k + 1) O v true := by
  have hf : Fr (fun j => j = g8) wr (put5 wr ⟨g8, 0, none⟩ x) := put5_fr (S := fun j => j = g8) (p := ⟨g8, 0, none⟩) (Fr.refl _ wr) rfl x
  refine ⟨h.own.fr hf (fun g hg9 e => h.ap.1 (by rw [hg9, e])), ?_, ?_, ?_, hf.blk h.bt hg.1, hf.blk h.b5 hg.2.1, h.bl.trans (hf.below h.bl.size (fun j hj e => by omega)), h.ap⟩
  · rw [hX, canX_snoc, if_pos hx, h.eq]
  · rw [hX, wasX_snoc, hx, Bool.or_true]
  · rw [hX, goneX_snoc, if_pos hx]
    unfold put5
    simp only [Nat.zero_add]
    exact ((((h.bg.put 0 _).put 1 _).put 2 _).put 3 _).put 4 _
theorem CanK.miss {w wr wz : World} {g8 t3 g5 k : Nat} {t x : TV} {X O : List TV} {v v' : Value} {b : Bool} (h : CanK w wr g8 t3 g5 t X k O v b) (hx : Go.Proofs.Ytogelnljkdcajaa.hit t x = false) (hX : X.take (k + 1) = X.take k ++ [x]) (ha : App wr w.heap.size rtT 5 v (O.length + 1) (tms O ++ tms [x]) v' wz) : CanK w wz g8 t3 g5 t X (k + 1) (O ++ [x]) v' b := by
  have hlt := fun j (e : v.ownBlock = some j) => h.own.lt j e
  refine ⟨by rw [tms_app, List.length_append]; exact ha.own, ?_, ?_, ?_, ha.fr.blk h.bt h.ap.2.1, ha.fr.blk h.b5 h.ap.2.2, h.bl.trans (ha.fr.below h.bl.size (fun j hj e => by have := (hlt j e).1; omega)), ?_⟩
  · rw [hX, canX_snoc, if_neg (by rw [hx]; simp), h.eq]
  · rw [hX, wasX_snoc, hx, Bool.or_false]; exact h.was
  · rw [hX, goneX_snoc, if_neg (by rw [hx]; simp)]
    exact ha.fr.blk h.bg h.ap.1
  · have hn : ∀ g, g < wr.heap.size → v.ownBlock ≠ some g → v'.ownBlock ≠ some g := by
      intro g hg hv e
      rcases ha.at_ with h9 | h9
      · exact hv (h9.symm.trans e)
      · have h8 := h9.symm.trans e
        injection h8 with h8
        omega
    exact ⟨hn _ h.bg.lt h.ap.1, hn _ h.bt.lt h.ap.2.1, hn _ h.b5.lt h.ap.2.2⟩

set_option maxRecDepth 100000 in
set_option maxHeartbeats 8000000 in
theorem rcan_any (v : Value) (X : List TV) (t : TV) (w : World) (hs : Sl w w.heap.size v 5 X.length (tms X)) (hx : ∀ x ∈ X, KeyIn w w.heap.size x) (ht : KeyIn w w.heap.size t) (hX : X.length ≤ 1000000) :
    Calls Try.prog 20 #[v, .agg t.cells.toArray] w fun e w' => ∃ (A : Option Addr) (c : Nat), e = .returned (.tuple #[.slice A (canX X t).length c, .agg (goneX X t).cells.toArray, .bool (wasX X t)]) ∧
      Own w' w.heap.size rtT 5 (.slice A (canX X t).length c) (canX X t).length (tms (canX X t)) ∧ Below w.heap.size w w' := by
  obtain ⟨sA, sc, rfl, hsc⟩ := hs.form
  have hmax := hs.max
  have HS := hide hs
  have HX := hide hx
  have HT := hide ht
  obtain ⟨tA, tc, htk, htc⟩ := ht.sl.form
  obtain ⟨T, hT⟩ : ∃ T, T = t := ⟨_, rfl⟩
  have HTT := hide hT
  rw [← hT] at HT ⊢
  clear hT
  clear hs hx ht
  obtain ⟨ta, tk, tb, tf, tt, tw⟩ := t
  simp only at htk htc
  subst htk
  obtain ⟨n, hn⟩ : ∃ n, n = X.length := ⟨_, rfl⟩
  rw [← hn] at HS hsc hmax hX ⊢
  have HN := hide hn
  obtain ⟨tn, htn⟩ : ∃ tn, tn = tb.length := ⟨_, rfl⟩
  have hTc : T.cells.toArray = #[.int .i64 ta, .slice tA tn tc, .int .i64 tf, .int .i64 tt, .int .i64 tw] := by rw [HTT.out, htn]; rfl
  have HTW : Hid (T.w = tw) := by show _ = _; rw [HTT.out]
  rw [← htn] at htc
  have HTC := hide hTc
  rw [hTc]
  clear hn htn hTc
  go_enter Try.func20, Try.ntmps20
  go_wp2_with fail
  obtain ⟨t3, ht3⟩ : ∃ t3, t3 = w.heap.size := ⟨_, rfl⟩
  obtain ⟨g5, hg5⟩ : ∃ g5, g5 = w.heap.size + 1 := ⟨_, rfl⟩
  obtain ⟨g8, hg8⟩ : ∃ g8, g8 = w.heap.size + 1 + 1 := ⟨_, rfl⟩
  have HG : Hid (t3 ≠ g8 ∧ g5 ≠ g8 ∧ w.heap.size ≤ g8 ∧ w.heap.size ≤ g5) := ⟨by omega, by omega, by omega, by omega⟩
  have HI0 : Hid (CanK w (((w.alloc (.cells #[.int .i64 ta, .slice tA tn tc, .int .i64 tf, .int .i64 tt, .int .i64 tw] rtT)).alloc (.cells #[.int .i64 0, .slice none 0 0, .int .i64 0, .int .i64 0, .int .i64 0] rtT)).alloc (.cells #[.int .i64 0, .slice none 0 0, .int .i64 0, .int .i64 0, .int .i64 0] rtT)) g8 t3 g5 T X 0 [] (.slice none 0 0) false) := by
    refine ⟨Own.nil _ _ _ _, rfl, rfl, ?_, ?_, ?_, (((Below.refl w.heap.size w).alloc (Nat.le_refl _) _).alloc (by simp) _).alloc (by simp; omega) _, by simp [Value.ownBlock]⟩
    · have h9 := Blk.new ((w.alloc (.cells #[.int .i64 ta, .slice tA tn tc, .int .i64 tf, .int .i64 tt, .int .i64 tw] rtT)).alloc (.cells #[.int .i64 0, .slice none 0 0, .int .i64 0, .int .i64 0, .int .i64 0] rtT)) rtT #[.int .i64 0, .slice none 0 0, .int .i64 0, .int .i64 0, .int .i64 0]
      rw [hg8]
      have h8 : Blk (((w.alloc (.cells #[.int .i64 ta, .slice tA tn tc, .int .i64 tf, .int .i64 tt, .int .i64 tw] rtT)).alloc (.cells #[.int .i64 0, .slice none 0 0, .int .i64 0, .int .i64 0, .int .i64 0] rtT)).alloc (.cells #[.int .i64 0, .slice none 0 0, .int .i64 0, .int .i64 0, .int .i64 0] rtT)) (w.heap.size + 1 + 1) rtT #[.int .i64 0, .slice none 0 0, .int .i64 0, .int .i64 0, .int .i64 0] := by simpa using h9
      exact h8
    · rw [ht3, HTC.out]
      exact ((Blk.new w rtT _).alloc _).alloc _
    · have h9 := Blk.new (w.alloc (.cells #[.int .i64 ta, .slice tA tn tc, .int .i64 tf, .int .i64 tt, .int .i64 tw] rtT)) rtT #[.int .i64 0, .slice none 0 0, .int .i64 0, .int .i64 0, .int .i64 0]
      rw [hg5]
      have h8 := h9.alloc (.cells #[.int .i64 0, .slice none 0 0, .int .i64 0, .int .i64 0, .int .i64 0] rtT)
      simpa using h8
  change Code.wp _ _ _ _ (((w.alloc (.cells #[.int .i64 ta, .slice tA tn tc, .int .i64 tf, .int .i64 tt, .int .i64 tw] rtT)).alloc (.cells #[.int .i64 0, .slice none 0 0, .int .i64 0, .int .i64 0, .int .i64 0] rtT)).alloc (.cells #[.int .i64 0, .slice none 0 0, .int .i64 0, .int .i64 0, .int .i64 0] rtT))
  generalize (((w.alloc (.cells #[.int .i64 ta, .slice tA tn tc, .int .i64 tf, .int .i64 tt, .int .i64 tw] rtT)).alloc (.cells #[.int .i64 0, .slice none 0 0, .int .i64 0, .int .i64 0, .int .i64 0] rtT)).alloc (.cells #[.int .i64 0, .slice none 0 0, .int .i64 0, .int .i64 0, .int .i64 0] rtT)) = w1 at *
  rw [← hg8, ← hg5, ← ht3]
  clear ht3 hg5 hg8
  go_loopw [7, 9, 10] (fun v b i wr => ∃ (k : Nat) (O : List TV) (bb : Bool), k ≤ n ∧ i = .int .i64 k ∧ b = .bool bb ∧ O.length ≤ k ∧ Hid (CanK w wr g8 t3 g5 T X k O v bb)) (fun _ _ i _ => n - (intOf i).toNat)
  case atStart => exact ⟨0, [], false, Nat.zero_le _, rfl, rfl, Nat.le_refl _, HI0.out⟩
  case round =>
    obtain ⟨k, O, bb, hk, rfl, rfl, hOk, HI⟩ := hrel
    by_cases hlt : k < n
    · have hkX : k < X.length := by rw [← HN.out]; exact hlt
      obtain ⟨ad, rfl, hab, a0, a1, a2, a3, a4⟩ := tm_at (HS.out.below HI.out.bl) hlt HN.out.symm
      have hzr := HI.out.bl.size
      have hab2 : (ad.add (k * 5)).block < wr.heap.size := by omega
      have HXM := hide (HX.out _ (List.getElem_mem hkX))
      have HTK := hide (List.take_succ_eq_append_getElem hkX)
      obtain ⟨x, hx⟩ : ∃ x, x = X[k] := ⟨_, rfl⟩
      rw [← hx] at a0 a1 a2 a3 a4 HXM HTK
      have HXI := hide hx
      clear hx
      obtain ⟨r1, hr1⟩ : ∃ r1, r1 = oneK x T := ⟨_, rfl⟩
      have HONE : Hid (∀ Y : World, Below wr.heap.size wr Y → Calls Try.prog 23 #[.agg x.cells.toArray, .agg T.cells.toArray] Y fun e w' => e = .returned (.bool r1) ∧ Below Y.heap.size Y w') := by
        intro Y hY
        have hwY : Below w.heap.size w Y := HI.out.bl.trans (hY.mono hzr)
        rw [hr1]
        exact rone_any x T w.heap.size Y (HXM.out.below hwY) (HT.out.below hwY) hwY.size
      have HHIT : Hid (hit T x = (r1 && decide (x.w = tw))) := by show _ = _; unfold hit; rw [hr1, HTW.out]
      clear hr1
      obtain ⟨xA, xc, hkx, hxc⟩ := HXM.out.sl.form
      obtain ⟨xa, xk, xb, xf, xt, xw⟩ := x
      simp only at hkx hxc a0 a1 a2 a3 a4 HHIT
      subst hkx
      rw [HTC.out] at HONE
      unfold TV.cells at HONE
      simp only at HONE
      have hbt := HI.out.bt
      rw [HTC.out] at hbt
      have HBT := hide hbt
      have hp := hbt.lt
      clear hbt
      have y0 := Aft.cell (HBT.out.cell 0) hp
      have y1 := Aft.cell (HBT.out.cell 1) hp
      have y2 := Aft.cell (HBT.out.cell 2) hp
      have y3 := Aft.cell (HBT.out.cell 3) hp
      have y4 := Aft.cell (HBT.out.cell 4) hp
      simp at y0 y1 y2 y3 y4
      have b0 := Aft.cell a0 hab2
      have b1 := Aft.cell a1 hab2
      have b2 := Aft.cell a2 hab2
      have b3 := Aft.cell a3 hab2
      have b4 := Aft.cell a4 hab2
      have i0 : (0 : Int) ≤ (k : Int) := by omega
      have i1 : (k : Int) < (n : Int) := by omega
      go_upto_region 7 with fail
      go_cut [7, 9, 10, 32] from 11 to 43 (fun v b i c wx => v = u7 ∧ b = .bool bb ∧ i = .int .i64 k ∧ ∃ hh : Bool, c = .bool hh ∧ Hid (hh = hit T ⟨xa, .slice xA xb.length xc, xb, xf, xt, xw⟩) ∧ Hid (CanK w wx g8 t3 g5 T X k O u7 bb))
      case first =>
        cases r1
        · have HH : Hid (hit T ⟨xa, .slice xA xb.length xc, xb, xf, xt, xw⟩ = false) := by show _ = _; rw [HHIT.out]; rfl
          refine wp_region_aft (by kernel_rfl) (by kernel_rfl) ?_
          repeat (go_big_quiet_step (first
            | (go_at_call 23; with_reducible exact calls_aft (HONE.out _ (Aft.h _)))))
          refine wpQuiet_nil ?_
          intro w9 hb9
          go_wp2_with fail
          go_meet
          case rel => exact ⟨rfl, rfl, rfl, false, rfl, HH.out.symm, HI.out.below hb9⟩
        · by_cases hw : xw = tw
          · have HH : Hid (hit T ⟨xa, .slice xA xb.length xc, xb, xf, xt, xw⟩ = true) := by show _ = _; rw [HHIT.out, hw]; simp
            subst hw
            have e1 : (xw == xw) = true := by simp
            refine wp_region_aft (by kernel_rfl) (by kernel_rfl) ?_
            repeat (go_big_quiet_step (first
              | (go_at_call 23; with_reducible exact calls_aft (HONE.out _ (Aft.h _)))))
            refine wpQuiet_nil ?_
            intro w9 hb9
            go_wp2_with fail
            go_meet
            case rel => exact ⟨rfl, rfl, rfl, true, rfl, HH.out.symm, HI.out.below hb9⟩
          · have HH : Hid (hit T ⟨xa, .slice xA xb.length xc, xb, xf, xt, xw⟩ = false) := by show _ = _; rw [HHIT.out]; simp [hw]
            have e1 : (xw == tw) = false := by simp [hw]
            refine wp_region_aft (by kernel_rfl) (by kernel_rfl) ?_
            repeat (go_big_quiet_step (first
              | (go_at_call 23; with_reducible exact calls_aft (HONE.out _ (Aft.h _)))))
            refine wpQuiet_nil ?_
            intro w9 hb9
            go_wp2_with fail
            go_meet
            case rel => exact ⟨rfl, rfl, rfl, false, rfl, HH.out.symm, HI.out.below hb9⟩
      case rest =>
        obtain ⟨rfl, rfl, rfl, hh, rfl, HH, HK⟩ := hcut
        clear HI HBT HONE HHIT y0 y1 y2 y3 y4 b0 b1 b2 b3 b4 a0 a1 a2 a3 a4 hab hab2 hzr hp
        obtain ⟨ad', had, hab, a0, a1, a2, a3, a4⟩ := tm_at (HS.out.below HK.out.bl) hlt HN.out.symm
        injection had with had
        subst had
        rw [← HXI.out] at a0 a1 a2 a3 a4
        have hzr := HK.out.bl.size
        have hab2 : (ad.add (k * 5)).block < wc.heap.size := by omega
        cases hh
        · obtain ⟨oA, oc, rfl, hoc⟩ := HK.out.own.sl.form
          have HK4 : Hid (∀ cs, CanK w (wc.alloc (.cells cs rtT)) g8 t3 g5 T X k O (.slice oA O.length oc) bb) := fun cs => HK.out.below ((Below.refl _ _).alloc (Nat.le_refl _) _)
          have HSL : Hid (∀ W : World, Sl (W.alloc (.cells #[.int .i64 xa, .slice xA xb.length xc, .int .i64 xf, .int .i64 xt, .int .i64 xw] rtT)) (W.heap.size + 1) (.slice (some ⟨W.heap.size, 0, none⟩) 1 1) 5 1 (tms [⟨xa, .slice xA xb.length xc, xb, xf, xt, xw⟩])) := fun W =>
            Sl.of_own (Own.new (n := 1) (sz := 5) (e := rtT) (base := 0) W #[.int .i64 xa, .slice xA xb.length xc, .int .i64 xf, .int .i64 xt, .int .i64 xw] (by omega) (by omega) rfl) |>.mono (by simp)
          go_wp2_with (at_builtin; refine wpList_app rfl tyRT (.tmp 37) (.tmp 42) rfl w.heap.size (n := O.length) (m := 1) (B := wc.heap.size + 1) (xs := tms O) (news := tms [⟨xa, .slice xA xb.length xc, xb, xf, xt, xw⟩]) rfl rfl (by exact (HK4.out _).own) (by exact HSL.out wc) (tms_ok _ (by intro u hu; simp only [List.mem_singleton] at hu; subst hu; rfl)) (by omega) (by omega) (by simp; omega) ?_)
          intro v5 w5 ha5
          have HK5 : Hid (CanK w w5 g8 t3 g5 T X (k + 1) (O ++ [⟨xa, .slice xA xb.length xc, xb, xf, xt, xw⟩]) v5 bb) := (HK4.out _).miss HH.out.symm HTK.out ha5
          clear ha5 HK4 HSL
          go_wp2_with fail
          go_roundw
          case rel => exact ⟨k + 1, _, bb, by omega, by simp, rfl, by simp; omega, HK5⟩
          case measure => simp [intOf]; omega
        · have hl8 := HK.out.bg.lt
          obtain ⟨G, hG⟩ : ∃ G, G = goneX (X.take k) T := ⟨_, rfl⟩
          have hbg := HK.out.bg
          rw [← hG] at hbg
          have HBG := hide hbg
          have z0 : wc.cell? ⟨g8, 0, none⟩ = some (.int .i64 G.a) := HBG.out.cell 0
          have z1 : wc.cell? ⟨g8, 1, none⟩ = some G.kv := HBG.out.cell 1
          have z2 : wc.cell? ⟨g8, 2, none⟩ = some (.int .i64 G.f) := HBG.out.cell 2
          have z3 : wc.cell? ⟨g8, 3, none⟩ = some (.int .i64 G.t) := HBG.out.cell 3
          have z4 : wc.cell? ⟨g8, 4, none⟩ = some (.int .i64 G.w) := HBG.out.cell 4
          have f0 := HBG.out.frozen 0
          have f1 := HBG.out.frozen 1
          have f2 := HBG.out.frozen 2
          have f3 := HBG.out.frozen 3
          have f4 := HBG.out.frozen 4
          clear hG hbg
          have HK5 : Hid (CanK w (put5 wc ⟨g8, 0, none⟩ ⟨xa, .slice xA xb.length xc, xb, xf, xt, xw⟩) g8 t3 g5 T X (k + 1) O u7 true) := HK.out.hit HH.out.symm HTK.out ⟨HG.out.1, HG.out.2.1, HG.out.2.2.1⟩
          go_wp2_with fail
          go_roundw
          case rel => exact ⟨k + 1, O, true, by omega, by simp, rfl, by omega, by unfold put5 at HK5; simpa using HK5⟩
          case measure => simp [intOf]; omega
    · have HE : Hid (X.take k = X) := List.take_of_length_le (by rw [← HN.out]; omega)
      obtain ⟨G, hG⟩ : ∃ G, G = goneX X T := ⟨_, rfl⟩
      have hbg := HI.out.bg
      rw [HE.out, ← hG] at hbg
      have HBG := hide hbg
      have HGG := hide hG
      obtain ⟨gA, gn, gc, hgk⟩ : ∃ A n c, G.kv = .slice A n c := by
        rw [hG]
        exact goneX_kv X T (fun y hy => by obtain ⟨A, c, hk, _⟩ := (HX.out y hy).sl.form; exact ⟨A, _, c, hk⟩)
      have HEQ : Hid (O = canX X T ∧ bb = wasX X T) := by have h1 := HI.out.eq; have h2 := HI.out.was; rw [HE.out] at h1 h2; exact ⟨h1, h2⟩
      have HB5 := hide HI.out.b5
      have HOW := hide HI.out.own
      have HBL := hide HI.out.bl
      have HAP := hide HI.out.ap
      clear hG hbg HI HS HX HT HTW HTT
      obtain ⟨oA, oc, rfl, hoc⟩ := HOW.out.sl.form
      obtain ⟨ga, gk, gb, gf, gt_, gw⟩ := G
      simp only at hgk
      subst hgk
      have hl8 := HBG.out.lt
      have hl5 := HB5.out.lt
      have z0 : wr.cell? ⟨g8, 0, none⟩ = some (.int .i64 ga) := HBG.out.cell 0
      have z1 : wr.cell? ⟨g8, 1, none⟩ = some (.slice gA gn gc) := HBG.out.cell 1
      have z2 : wr.cell? ⟨g8, 2, none⟩ = some (.int .i64 gf) := HBG.out.cell 2
      have z3 : wr.cell? ⟨g8, 3, none⟩ = some (.int .i64 gt_) := HBG.out.cell 3
      have z4 : wr.cell? ⟨g8, 4, none⟩ = some (.int .i64 gw) := HBG.out.cell 4
      have q0 : wr.cell? ⟨g5, 0, none⟩ = some (.int .i64 0) := HB5.out.cell 0
      have q1 : wr.cell? ⟨g5, 1, none⟩ = some (.slice none 0 0) := HB5.out.cell 1
      have q2 : wr.cell? ⟨g5, 2, none⟩ = some (.int .i64 0) := HB5.out.cell 2
      have q3 : wr.cell? ⟨g5, 3, none⟩ = some (.int .i64 0) := HB5.out.cell 3
      have q4 : wr.cell? ⟨g5, 4, none⟩ = some (.int .i64 0) := HB5.out.cell 4
      have f0 := HB5.out.frozen 0
      have f1 := HB5.out.frozen 1
      have f2 := HB5.out.frozen 2
      have f3 := HB5.out.frozen 3
      have f4 := HB5.out.frozen 4
      have HFAR : Hid (∀ (X : World) (i o : Nat) (u : Value), (X.setCell ⟨g5, i, none⟩ u).cell? ⟨g8, o, none⟩ = X.cell? ⟨g8, o, none⟩) := fun X i o u => World.cell?_of_block (Below.heap_setCell X ⟨g5, i, none⟩ u g8 (fun e => HG.out.2.1 e.symm))
      have HDR : Hid (∀ (X : World) (p : Addr), X.drew.cell? p = X.cell? p) := fun _ _ => rfl
      have HR9 : Hid (Blk (put5 wr ⟨g5, 0, none⟩ ⟨ga, .slice gA gn gc, gb, gf, gt_, gw⟩) g5 rtT #[.int .i64 ga, .slice gA gn gc, .int .i64 gf, .int .i64 gt_, .int .i64 gw] ∧
          Own (put5 wr ⟨g5, 0, none⟩ ⟨ga, .slice gA gn gc, gb, gf, gt_, gw⟩) w.heap.size rtT 5 (.slice oA O.length oc) O.length (tms O) ∧ Below w.heap.size w (put5 wr ⟨g5, 0, none⟩ ⟨ga, .slice gA gn gc, gb, gf, gt_, gw⟩)) := by
        have hf : Fr (fun j => j = g5) wr (put5 wr ⟨g5, 0, none⟩ ⟨ga, .slice gA gn gc, gb, gf, gt_, gw⟩) := put5_fr (S := fun j => j = g5) (p := ⟨g5, 0, none⟩) (Fr.refl _ wr) rfl _
        refine ⟨?_, HOW.out.fr hf (fun g hg e => HAP.out.2.2 (by rw [hg, e])), HBL.out.trans (hf.below HBL.out.size (fun j hj e => by have := HG.out.2.2.2; omega))⟩
        unfold put5
        simp only [Nat.zero_add]
        exact ((((HB5.out.put 0 _).put 1 _).put 2 _).put 3 _).put 4 _
      go_wp2_with fail
      go_region_held3 (fun X : World => X.cell? ⟨g8, 0, none⟩ = some (.int .i64 ga) ∧ X.cell? ⟨g8, 1, none⟩ = some (.slice gA gn gc) ∧ X.cell? ⟨g8, 2, none⟩ = some (.int .i64 gf) ∧ X.cell? ⟨g8, 3, none⟩ = some (.int .i64 gt_) ∧ X.cell? ⟨g8, 4, none⟩ = some (.int .i64 gw)) (refine ⟨?_, ?_, ?_, ?_, ?_⟩ <;> simp only [HDR.out, HFAR.out, z0, z1, z2, z3, z4]) (fail)
      all_goals
        clear z0 z1 z2 z3 z4 q0 q1 q2 q3 q4 f0 f1 f2 f3 f4 HFAR HDR
        go_wp2_with fail
        change bodyPost _ _ _ _ _ (put5 wr ⟨g5, 0, none⟩ ⟨ga, .slice gA gn gc, gb, gf, gt_, gw⟩).drew
        generalize (put5 wr ⟨g5, 0, none⟩ ⟨ga, .slice gA gn gc, gb, gf, gt_, gw⟩) = w8 at *
        have c0 : w8.drew.cell? ⟨g5, 0, none⟩ = some (.int .i64 ga) := HR9.out.1.cell 0
        have c1 : w8.drew.cell? ⟨g5, 1, none⟩ = some (.slice gA gn gc) := HR9.out.1.cell 1
        have c2 : w8.drew.cell? ⟨g5, 2, none⟩ = some (.int .i64 gf) := HR9.out.1.cell 2
        have c3 : w8.drew.cell? ⟨g5, 3, none⟩ = some (.int .i64 gt_) := HR9.out.1.cell 3
        have c4 : w8.drew.cell? ⟨g5, 4, none⟩ = some (.int .i64 gw) := HR9.out.1.cell 4
        have hres : Try.f20.results = #[.tmp 4, .cell 5 rtT, .tmp 6] := by kernel_rfl
        refine bodyPost_ret (v := .tuple #[.slice oA O.length oc, .agg #[.int .i64 ga, .slice gA gn gc, .int .i64 gf, .int .i64 gt_, .int .i64 gw], .bool bb]) ?_ rfl ?_
        · simp [results, hres, go_sem, c0, c1, c2, c3, c4]
        · refine ⟨oA, oc, ?_, ?_, HR9.out.2.2.drewN 1⟩
          · rw [← HGG.out, ← HEQ.out.1, HEQ.out.2]; rfl
          · rw [← HEQ.out.1]; exact HR9.out.2.1

end Go.Proofs.Ytogelnljkdcajaa
