/- The reference's Commit (printed by genrm15.py). -/
import Derived.Test.YtkobaidamdffmaaQCellsDecodes20

namespace Go.Proofs.Ytkobaidamdffmaa
open Go.RowKit Go.Sort
set_option linter.unusedVariables false
set_option linter.unusedSimpArgs false

def chR (E : List RC) (x : RC) : Bool := match findR E x with | none => true | some y => decide (y.d ≠ x.d)
def loR (D : List RC) (x : RC) : Bool := (findR D x).isNone
def cntR (D E : List RC) : Nat := D.countP (chR E) + E.countP (loR D)
/-- behind Commit -/
def RComP (wq w : World) (base xb : Nat) (v u : Value) (D E : List RC) (b : Bool) (e : Ending) (w' : World) : Prop :=
  (b = false ∧ e = .returned (.tuple #[.int .i64 0, .bool false]) ∧ RT wq w' base xb v D u E b ∧ Fr (fun j => j = xb) w w') ∨
  (b = true ∧ e = .returned (.tuple #[.int .i64 (cntR D E), .bool true]) ∧ RT wq w' base xb v D u E false ∧ Fr (fun j => j = xb) w w')
set_option maxRecDepth 100000 in
set_option maxHeartbeats 16000000 in
theorem rcommit_any (wq w : World) (base xb : Nat) (v u : Value) (D E : List RC) (b : Bool) (h : RT wq w base xb v D u E b) (hwb : wq.heap.size ≤ xb) (hD : D.length ≤ 100000) (hE : E.length ≤ 100000) :
    Calls Try.prog 45 #[.pointer (some ⟨xb, 0, none⟩)] w (RComP wq w base xb v u D E b) := by
  have HR := hide h
  have hbl := h.blk.lt
  cases b with
  | false =>
    have t2 : w.cell? ⟨xb, 2, none⟩ = some (.bool false) := h.blk.cell 2
    clear h
    go_enter Try.func45, Try.ntmps45
    go_wp2_with fail
    go_ret2
    exact .inl ⟨rfl, rfl, HR.out, Fr.refl _ _⟩
  | true =>
    obtain ⟨lA, lc, rfl, hlc⟩ := h.own.sl.form
    obtain ⟨uA, uc, rfl, huc⟩ := h.was.sl.form
    have t2 : w.cell? ⟨xb, 2, none⟩ = some (.bool true) := h.blk.cell 2
    have y2 := h.blk.frozen 2
    have HF : Hid (Fr (fun j => j = xb) w (w.setCell ⟨xb, 2, none⟩ (.bool false))) := Fr.put (S := fun j => j = xb) (Fr.refl _ w) (p := ⟨xb, 2, none⟩) (.inl rfl) (.bool false)
    have HR1 : Hid (RT wq (w.setCell ⟨xb, 2, none⟩ (.bool false)) base xb (.slice lA D.length lc) D (.slice uA E.length uc) E false) := by
      refine HR.out.upd HF.out ?_ HR.out.own HR.out.was HR.out.q HR.out.qw hwb
      have h9 := h.blk.put 2 (.bool false)
      simpa using h9
    clear h HR
    go_enter Try.func45, Try.ntmps45
    go_upto_region 4 with fail
    generalize (w.setCell ⟨xb, 2, none⟩ (.bool false)) = w1 at *
    clear t2 y2
    obtain ⟨n, hn⟩ : ∃ n, n = D.length := ⟨_, rfl⟩
    obtain ⟨m, hm⟩ : ∃ n, n = E.length := ⟨_, rfl⟩
    have HN := hide hn
    have HM := hide hm
    have HTB : Hid (Blk w1 xb rtT #[.slice lA n lc, .slice uA m uc, .bool false]) := by rw [hn, hm]; exact HR1.out.blk
    have HSL : Hid (Sl w1 w1.heap.size (.slice lA n lc) 10 n (rcs D)) := by rw [hn]; exact HR1.out.own.sl
    have HSU : Hid (Sl w1 w1.heap.size (.slice uA m uc) 10 m (rcs E)) := by rw [hm]; exact HR1.out.was.sl
    have HQL : Hid (∀ x ∈ D, RCQ w1 x) := fun x hx => (HR1.out.q x hx).below HR1.out.bl
    have HQU : Hid (∀ x ∈ E, RCQ w1 x) := fun x hx => (HR1.out.qw x hx).below HR1.out.bl
    have hnl : n ≤ 100000 := by omega
    have hml : m ≤ 100000 := by omega
    have hxl := HTB.out.lt
    rw [← hn] at hlc
    rw [← hm] at huc
    clear hn hm hD hE
    go_wp2_with fail
    go_loopw [4, 5] (fun c i wr => ∃ (k z : Nat), k ≤ n ∧ i = .int .i64 k ∧ c = .int .i64 z ∧ z ≤ k ∧ Hid (z = (D.take k).countP (chR E)) ∧ Hid (Below w1.heap.size w1 wr)) (fun _ i _ => n - (intOf i).toNat)
    case atStart => exact ⟨0, 0, Nat.zero_le _, rfl, rfl, Nat.le_refl _, rfl, Below.refl _ _⟩
    case round =>
    obtain ⟨k, z, hk, rfl, rfl, hzk, HZ, HB⟩ := hrel
    by_cases hlt : k < n
    · have hkD : k < D.length := by rw [← HN.out]; exact hlt
      have hkD2 : k < n := hlt
      have hki : (k : Int) < (n : Int) := by omega
      have HTK : Hid (D.take (k + 1) = D.take k ++ [D[k]]) := List.take_succ_eq_append_getElem hkD
      obtain ⟨y0, hy0⟩ : ∃ y, y = D[k] := ⟨_, rfl⟩
      have HyQ : Hid (RCQ w1 y0) := HQL.out _ (by rw [hy0]; exact List.getElem_mem hkD)
      obtain ⟨ad, hylA, hyab, -, -, -, -, -, -, -, -, -, -⟩ := rc_at HSL.out (show k < _ from hkD2) HN.out.symm
      subst hylA
      have HyC0 : Hid (∀ X : World, Below w1.heap.size w1 X → X.cell? (ad.add (k * 10)) = some y0.k ∧ X.cell? ⟨(ad.add (k * 10)).block, (ad.add (k * 10)).off + 1, none⟩ = some (.int .i64 y0.f) ∧ X.cell? ⟨(ad.add (k * 10)).block, (ad.add (k * 10)).off + 2, none⟩ = some (.int .i64 y0.t) ∧ X.cell? ⟨(ad.add (k * 10)).block, (ad.add (k * 10)).off + 3, none⟩ = some (y0.a) ∧ X.cell? ⟨(ad.add (k * 10)).block, (ad.add (k * 10)).off + 4, none⟩ = some (.int .i64 y0.d.s) ∧ X.cell? ⟨(ad.add (k * 10)).block, (ad.add (k * 10)).off + 5, none⟩ = some (.int .i64 y0.d.n) ∧ X.cell? ⟨(ad.add (k * 10)).block, (ad.add (k * 10)).off + 6, none⟩ = some (.int .i64 y0.d.g) ∧ X.cell? ⟨(ad.add (k * 10)).block, (ad.add (k * 10)).off + 7, none⟩ = some (.int .i64 y0.d.h) ∧ X.cell? ⟨(ad.add (k * 10)).block, (ad.add (k * 10)).off + 8, none⟩ = some (.bool y0.d.p) ∧ X.cell? ⟨(ad.add (k * 10)).block, (ad.add (k * 10)).off + 9, none⟩ = some (.bool y0.d.c)) := fun X hX => by
        obtain ⟨ad', h1, _, h3⟩ := rc_at (HSL.out.below hX) (show k < _ from hkD2) HN.out.symm
        injection h1 with h1
        subst h1
        rw [hy0]
        exact h3
      obtain ⟨yx, hyx⟩ : ∃ q, q = y0 := ⟨_, rfl⟩
      have HyX : Hid (yx = D[k]) := by rw [Hid, hyx, hy0]
      have HyV : Hid (yx = y0) := hyx
      have HyQX : Hid (RCQ w1 yx) := by rw [hyx]; exact HyQ.out
      clear hy0 hyx
      obtain ⟨yk_, ky, yf, yt, ya_, yd⟩ := y0
      obtain ⟨yA, yc, hyk, hykc⟩ := HyQ.out.ks.form
      obtain ⟨yE, yq, hye, hyec⟩ := HyQ.out.ac.form
      simp only at hyk hykc hye hyec
      obtain ⟨yn, hyn⟩ : ∃ n, n = ky.length := ⟨_, rfl⟩
      obtain ⟨ym, hym⟩ : ∃ n, n = yd.b.length := ⟨_, rfl⟩
      rw [← hyn] at hyk hykc
      rw [← hym] at hye hyec
      subst hyk hye
      have HyE : Hid (Sl w1 w1.heap.size (.slice yE ym yq) 1 ym (bys yd.b) ∧ yd.b.length = ym ∧ Bytes8 yd.b) := ⟨by have h9 := HyQ.out.ac; rw [← hym] at h9; exact h9, hym.symm, HyQ.out.a8⟩
      have HyC : Hid (∀ X : World, Below w1.heap.size w1 X → X.cell? (ad.add (k * 10)) = some (.slice yA yn yc) ∧ X.cell? ⟨(ad.add (k * 10)).block, (ad.add (k * 10)).off + 1, none⟩ = some (.int .i64 yf) ∧ X.cell? ⟨(ad.add (k * 10)).block, (ad.add (k * 10)).off + 2, none⟩ = some (.int .i64 yt) ∧ X.cell? ⟨(ad.add (k * 10)).block, (ad.add (k * 10)).off + 3, none⟩ = some (.slice yE ym yq) ∧ X.cell? ⟨(ad.add (k * 10)).block, (ad.add (k * 10)).off + 4, none⟩ = some (.int .i64 yd.s) ∧ X.cell? ⟨(ad.add (k * 10)).block, (ad.add (k * 10)).off + 5, none⟩ = some (.int .i64 yd.n) ∧ X.cell? ⟨(ad.add (k * 10)).block, (ad.add (k * 10)).off + 6, none⟩ = some (.int .i64 yd.g) ∧ X.cell? ⟨(ad.add (k * 10)).block, (ad.add (k * 10)).off + 7, none⟩ = some (.int .i64 yd.h) ∧ X.cell? ⟨(ad.add (k * 10)).block, (ad.add (k * 10)).off + 8, none⟩ = some (.bool yd.p) ∧ X.cell? ⟨(ad.add (k * 10)).block, (ad.add (k * 10)).off + 9, none⟩ = some (.bool yd.c)) := fun X hX => HyC0.out X hX
      have HyL : Hid (yx.cells = [.slice yA yn yc, .int .i64 yf, .int .i64 yt, .slice yE ym yq, .int .i64 yd.s, .int .i64 yd.n, .int .i64 yd.g, .int .i64 yd.h, .bool yd.p, .bool yd.c] ∧ yx.d = yd) := by rw [HyV.out]; exact ⟨rfl, rfl⟩
      clear hyn hym HyQ HyC0 HyV
      have HZ1 : Hid ((D.take (k + 1)).countP (chR E) = z + (if chR E yx then 1 else 0)) := by
        rw [Hid, HTK.out, ← HyX.out, List.countP_append, List.countP_cons, List.countP_nil, Nat.zero_add, HZ.out]
      have HFD : Hid (∀ p : Aft wr, Calls Try.prog 66 #[.slice uA m uc, .agg #[.slice yA yn yc, .int .i64 yf, .int .i64 yt, .slice yE ym yq, .int .i64 yd.s, .int .i64 yd.n, .int .i64 yd.g, .int .i64 yd.h, .bool yd.p, .bool yd.c]] p.w' fun e w' => e = .returned (.int .i64 (findL yx E 0)) ∧ Below p.w'.heap.size p.w' w') := fun p => by
        have hbp : Below w1.heap.size w1 p.w' := HB.out.trans (p.h.mono HB.out.size)
        have h9 := rfind_any p.w' (.slice uA m uc) E yx (by rw [← HM.out]; exact (HSU.out.below hbp).mono hbp.size) (fun q hq => (HQU.out q hq).below hbp) (HyQX.out.below hbp) (by have := HM.out; omega)
        rw [HyL.out.1] at h9
        exact h9
      have hfs := findL_spec yx E 0
      simp only [Nat.zero_add] at hfs
      obtain ⟨o, ho⟩ : ∃ o, o = findL yx E 0 := ⟨_, rfl⟩
      rw [← ho] at HFD hfs
      have HFS := hide hfs
      clear ho hfs HZ HTK
      have kt0 := (HTB.out.below HB.out HTB.out.lt).cell 0
      have kt1 := (HTB.out.below HB.out HTB.out.lt).cell 1
      have hkt := (HTB.out.below HB.out HTB.out.lt).lt
      simp at kt0 kt1
      go_upto_region 8 with fail
      clear kt0 kt1 hkt
      have kt := HTB.out.below HB.out HTB.out.lt
      have hkt := kt.lt
      have t0 := Aft.cell (kt.cell 0) hkt
      have t1 := Aft.cell (kt.cell 1) hkt
      simp at t0 t1
      clear kt
      obtain ⟨iy0, iy1, iy2, iy3, iy4, iy5, iy6, iy7, iy8, iy9⟩ := HyC.out wr HB.out
      have hby : (ad.add (k * 10)).block < wr.heap.size := Nat.lt_of_lt_of_le hyab (HB.out).size
      have y0 := Aft.cell iy0 hby
      have y1 := Aft.cell iy1 hby
      have y2 := Aft.cell iy2 hby
      have y3 := Aft.cell iy3 hby
      have y4 := Aft.cell iy4 hby
      have y5 := Aft.cell iy5 hby
      have y6 := Aft.cell iy6 hby
      have y7 := Aft.cell iy7 hby
      have y8 := Aft.cell iy8 hby
      have y9 := Aft.cell iy9 hby
      clear iy0 iy1 iy2 iy3 iy4 iy5 iy6 iy7 iy8 iy9
      refine wp_region_aft (by kernel_rfl) (by kernel_rfl) ?_
      repeat (go_big_quiet_step (first | (go_at_call 66; with_reducible exact calls_aft (HFD.out _))))
      refine wpQuiet_nil ?_
      intro w9 hb9
      have HB9 := hide (HB.out.trans (hb9.mono HB.out.size))
      clear y0 y1 y2 y3 y4 y5 y6 y7 y8 y9 t0 t1 hkt hby hb9 HFD HB
      rcases HFS.out with ⟨rfl, hfr⟩ | ⟨j, hj, rfl, hfr⟩
      · have HC : Hid ((D.take (k + 1)).countP (chR E) = z + 1) := by rw [Hid, HZ1.out]; unfold chR; rw [hfr]; rfl
        clear hfr HZ1
        go_wp2_with fail
        refine wp_region_aft (by kernel_rfl) (by kernel_rfl) ?_
        repeat (go_big_quiet_step (fail))
        refine wpQuiet_nil ?_
        intro w10 hb10
        have HB10 := hide (HB9.out.trans (hb10.mono HB9.out.size))
        clear hb10 HB9
        go_wp2_with fail
        go_roundw
        case rel => exact ⟨k + 1, z + 1, by omega, by simp, by simp, by omega, HC.out.symm, HB10⟩
        case measure => simp [intOf]; omega
      · have hj2 : j < m := by rw [HM.out]; exact hj
        have hji : (j : Int) < (m : Int) := by omega
        have hjd : decide ((j : Int) < 0) = false := decide_eq_false (by omega)
        obtain ⟨x0, hx0⟩ : ∃ y, y = E[j] := ⟨_, rfl⟩
        have HxQ : Hid (RCQ w1 x0) := HQU.out _ (by rw [hx0]; exact List.getElem_mem hj)
        obtain ⟨bd, hxlA, hxab, -, -, -, -, -, -, -, -, -, -⟩ := rc_at HSU.out (show j < _ from hj2) HM.out.symm
        subst hxlA
        have HxC0 : Hid (∀ X : World, Below w1.heap.size w1 X → X.cell? (bd.add (j * 10)) = some x0.k ∧ X.cell? ⟨(bd.add (j * 10)).block, (bd.add (j * 10)).off + 1, none⟩ = some (.int .i64 x0.f) ∧ X.cell? ⟨(bd.add (j * 10)).block, (bd.add (j * 10)).off + 2, none⟩ = some (.int .i64 x0.t) ∧ X.cell? ⟨(bd.add (j * 10)).block, (bd.add (j * 10)).off + 3, none⟩ = some (x0.a) ∧ X.cell? ⟨(bd.add (j * 10)).block, (bd.add (j * 10)).off + 4, none⟩ = some (.int .i64 x0.d.s) ∧ X.cell? ⟨(bd.add (j * 10)).block, (bd.add (j * 10)).off + 5, none⟩ = some (.int .i64 x0.d.n) ∧ X.cell? ⟨(bd.add (j * 10)).block, (bd.add (j * 10)).off + 6, none⟩ = some (.int .i64 x0.d.g) ∧ X.cell? ⟨(bd.add (j * 10)).block, (bd.add (j * 10)).off + 7, none⟩ = some (.int .i64 x0.d.h) ∧ X.cell? ⟨(bd.add (j * 10)).block, (bd.add (j * 10)).off + 8, none⟩ = some (.bool x0.d.p) ∧ X.cell? ⟨(bd.add (j * 10)).block, (bd.add (j * 10)).off + 9, none⟩ = some (.bool x0.d.c)) := fun X hX => by
          obtain ⟨ad', h1, _, h3⟩ := rc_at (HSU.out.below hX) (show j < _ from hj2) HM.out.symm
          injection h1 with h1
          subst h1
          rw [hx0]
          exact h3
        obtain ⟨xx, hxx⟩ : ∃ q, q = x0 := ⟨_, rfl⟩
        have HxX : Hid (xx = E[j]) := by rw [Hid, hxx, hx0]
        have HxV : Hid (xx = x0) := hxx
        have HxQX : Hid (RCQ w1 xx) := by rw [hxx]; exact HxQ.out
        clear hx0 hxx
        obtain ⟨xk_, kx, xf, xt, xa_, xd⟩ := x0
        obtain ⟨xA, xc, hxk, hxkc⟩ := HxQ.out.ks.form
        obtain ⟨xE, xq, hxe, hxec⟩ := HxQ.out.ac.form
        simp only at hxk hxkc hxe hxec
        obtain ⟨xn, hxn⟩ : ∃ n, n = kx.length := ⟨_, rfl⟩
        obtain ⟨xm, hxm⟩ : ∃ n, n = xd.b.length := ⟨_, rfl⟩
        rw [← hxn] at hxk hxkc
        rw [← hxm] at hxe hxec
        subst hxk hxe
        have HxE : Hid (Sl w1 w1.heap.size (.slice xE xm xq) 1 xm (bys xd.b) ∧ xd.b.length = xm ∧ Bytes8 xd.b) := ⟨by have h9 := HxQ.out.ac; rw [← hxm] at h9; exact h9, hxm.symm, HxQ.out.a8⟩
        have HxC : Hid (∀ X : World, Below w1.heap.size w1 X → X.cell? (bd.add (j * 10)) = some (.slice xA xn xc) ∧ X.cell? ⟨(bd.add (j * 10)).block, (bd.add (j * 10)).off + 1, none⟩ = some (.int .i64 xf) ∧ X.cell? ⟨(bd.add (j * 10)).block, (bd.add (j * 10)).off + 2, none⟩ = some (.int .i64 xt) ∧ X.cell? ⟨(bd.add (j * 10)).block, (bd.add (j * 10)).off + 3, none⟩ = some (.slice xE xm xq) ∧ X.cell? ⟨(bd.add (j * 10)).block, (bd.add (j * 10)).off + 4, none⟩ = some (.int .i64 xd.s) ∧ X.cell? ⟨(bd.add (j * 10)).block, (bd.add (j * 10)).off + 5, none⟩ = some (.int .i64 xd.n) ∧ X.cell? ⟨(bd.add (j * 10)).block, (bd.add (j * 10)).off + 6, none⟩ = some (.int .i64 xd.g) ∧ X.cell? ⟨(bd.add (j * 10)).block, (bd.add (j * 10)).off + 7, none⟩ = some (.int .i64 xd.h) ∧ X.cell? ⟨(bd.add (j * 10)).block, (bd.add (j * 10)).off + 8, none⟩ = some (.bool xd.p) ∧ X.cell? ⟨(bd.add (j * 10)).block, (bd.add (j * 10)).off + 9, none⟩ = some (.bool xd.c)) := fun X hX => HxC0.out X hX
        have HxL : Hid (xx.cells = [.slice xA xn xc, .int .i64 xf, .int .i64 xt, .slice xE xm xq, .int .i64 xd.s, .int .i64 xd.n, .int .i64 xd.g, .int .i64 xd.h, .bool xd.p, .bool xd.c] ∧ xx.d = xd) := by rw [HxV.out]; exact ⟨rfl, rfl⟩
        clear hxn hxm HxQ HxC0 HxV
        have HSM : Hid (∀ p : Aft w9, Calls Try.prog 67 #[.agg #[.slice xA xn xc, .int .i64 xf, .int .i64 xt, .slice xE xm xq, .int .i64 xd.s, .int .i64 xd.n, .int .i64 xd.g, .int .i64 xd.h, .bool xd.p, .bool xd.c], .agg #[.slice yA yn yc, .int .i64 yf, .int .i64 yt, .slice yE ym yq, .int .i64 yd.s, .int .i64 yd.n, .int .i64 yd.g, .int .i64 yd.h, .bool yd.p, .bool yd.c]] p.w' fun e w' => e = .returned (.bool (decide (xd = yd))) ∧ Below p.w'.heap.size p.w' w') := fun p => by
          have hbp : Below w1.heap.size w1 p.w' := HB9.out.trans (p.h.mono HB9.out.size)
          exact rsame_any xA xE yA yE xn xc xm xq yn yc ym yq xf xt yf yt xd yd w1.heap.size p.w' (HxE.out.1.below hbp) (HyE.out.1.below hbp) HxE.out.2.1 HyE.out.2.1 HxE.out.2.2 HyE.out.2.2 hbp.size
        have HC0 : Hid (chR E yx = decide (xd ≠ yd)) := by
          unfold chR
          rw [Hid, hfr, ← HxX.out]
          simp only
          rw [HxL.out.2, HyL.out.2]
        obtain ⟨sm, hsm⟩ : ∃ sm, sm = decide (xd = yd) := ⟨_, rfl⟩
        have HC : Hid ((D.take (k + 1)).countP (chR E) = z + (if sm then 0 else 1)) := by
          rw [Hid, HZ1.out, HC0.out, hsm]
          by_cases h9 : xd = yd <;> simp [h9]
        rw [← hsm] at HSM
        clear hsm hfr HZ1 HC0
        have kt := HTB.out.below HB9.out HTB.out.lt
        have hkt := kt.lt
        have t0 := Aft.cell (kt.cell 0) hkt
        have t1 := Aft.cell (kt.cell 1) hkt
        simp at t0 t1
        clear kt
        obtain ⟨iy0, iy1, iy2, iy3, iy4, iy5, iy6, iy7, iy8, iy9⟩ := HyC.out w9 HB9.out
        have hby : (ad.add (k * 10)).block < w9.heap.size := Nat.lt_of_lt_of_le hyab (HB9.out).size
        have y0 := Aft.cell iy0 hby
        have y1 := Aft.cell iy1 hby
        have y2 := Aft.cell iy2 hby
        have y3 := Aft.cell iy3 hby
        have y4 := Aft.cell iy4 hby
        have y5 := Aft.cell iy5 hby
        have y6 := Aft.cell iy6 hby
        have y7 := Aft.cell iy7 hby
        have y8 := Aft.cell iy8 hby
        have y9 := Aft.cell iy9 hby
        clear iy0 iy1 iy2 iy3 iy4 iy5 iy6 iy7 iy8 iy9
        obtain ⟨ix0, ix1, ix2, ix3, ix4, ix5, ix6, ix7, ix8, ix9⟩ := HxC.out w9 HB9.out
        have hbx : (bd.add (j * 10)).block < w9.heap.size := Nat.lt_of_lt_of_le hxab (HB9.out).size
        have x0 := Aft.cell ix0 hbx
        have x1 := Aft.cell ix1 hbx
        have x2 := Aft.cell ix2 hbx
        have x3 := Aft.cell ix3 hbx
        have x4 := Aft.cell ix4 hbx
        have x5 := Aft.cell ix5 hbx
        have x6 := Aft.cell ix6 hbx
        have x7 := Aft.cell ix7 hbx
        have x8 := Aft.cell ix8 hbx
        have x9 := Aft.cell ix9 hbx
        clear ix0 ix1 ix2 ix3 ix4 ix5 ix6 ix7 ix8 ix9
        go_wp2_with fail
        refine wp_region_aft (by kernel_rfl) (by kernel_rfl) ?_
        repeat (go_big_quiet_step (first | (go_at_call 67; with_reducible exact calls_aft (HSM.out _))))
        refine wpQuiet_nil ?_
        intro w10 hb10
        have HB10 := hide (HB9.out.trans (hb10.mono HB9.out.size))
        clear y0 y1 y2 y3 y4 y5 y6 y7 y8 y9 x0 x1 x2 x3 x4 x5 x6 x7 x8 x9 t0 t1 hkt hby hbx hb10 HB9 HSM
        cases sm with
        | true =>
          go_wp2_with fail
          go_roundw
          case rel => exact ⟨k + 1, z, by omega, by simp, rfl, by omega, HC.out.symm, HB10⟩
          case measure => simp [intOf]; omega
        | false =>
          go_wp2_with fail
          go_roundw
          case rel => exact ⟨k + 1, z + 1, by omega, by simp, by simp, by omega, HC.out.symm, HB10⟩
          case measure => simp [intOf]; omega
    · have HZD : Hid (z = D.countP (chR E)) := by rw [Hid, HZ.out, List.take_of_length_le (by rw [← HN.out]; omega)]
      have hzn : z ≤ 100000 := by omega
      clear HZ hzk
      have kt0 := (HTB.out.below HB.out HTB.out.lt).cell 0
      have kt1 := (HTB.out.below HB.out HTB.out.lt).cell 1
      have hkt := (HTB.out.below HB.out HTB.out.lt).lt
      simp at kt0 kt1
      go_wp2_with fail
      clear kt0 kt1 hkt
      go_loopw [4, 7] (fun c i wr => ∃ (k y : Nat), k ≤ m ∧ i = .int .i64 k ∧ c = .int .i64 ((z + y : Nat) : Int) ∧ y ≤ k ∧ Hid (y = (E.take k).countP (loR D)) ∧ Hid (Below w1.heap.size w1 wr)) (fun _ i _ => m - (intOf i).toNat)
      case atStart => exact ⟨0, 0, Nat.zero_le _, rfl, rfl, Nat.le_refl _, rfl, HB⟩
      case round =>
      clear HB
      obtain ⟨k, y, hk, rfl, rfl, hyk, HZ, HB⟩ := hrel
      have kt0 := (HTB.out.below HB.out HTB.out.lt).cell 0
      have kt1 := (HTB.out.below HB.out HTB.out.lt).cell 1
      have hkt := (HTB.out.below HB.out HTB.out.lt).lt
      simp at kt0 kt1
      by_cases hlt : k < m
      · have hkE : k < E.length := by rw [← HM.out]; exact hlt
        have hkE2 : k < m := hlt
        have hki : (k : Int) < (m : Int) := by omega
        have HTK : Hid (E.take (k + 1) = E.take k ++ [E[k]]) := List.take_succ_eq_append_getElem hkE
        obtain ⟨x0, hx0⟩ : ∃ y, y = E[k] := ⟨_, rfl⟩
        have HxQ : Hid (RCQ w1 x0) := HQU.out _ (by rw [hx0]; exact List.getElem_mem hkE)
        obtain ⟨bd, hxlA, hxab, -, -, -, -, -, -, -, -, -, -⟩ := rc_at HSU.out (show k < _ from hkE2) HM.out.symm
        subst hxlA
        have HxC0 : Hid (∀ X : World, Below w1.heap.size w1 X → X.cell? (bd.add (k * 10)) = some x0.k ∧ X.cell? ⟨(bd.add (k * 10)).block, (bd.add (k * 10)).off + 1, none⟩ = some (.int .i64 x0.f) ∧ X.cell? ⟨(bd.add (k * 10)).block, (bd.add (k * 10)).off + 2, none⟩ = some (.int .i64 x0.t) ∧ X.cell? ⟨(bd.add (k * 10)).block, (bd.add (k * 10)).off + 3, none⟩ = some (x0.a) ∧ X.cell? ⟨(bd.add (k * 10)).block, (bd.add (k * 10)).off + 4, none⟩ = some (.int .i64 x0.d.s) ∧ X.cell? ⟨(bd.add (k * 10)).block, (bd.add (k * 10)).off + 5, none⟩ = some (.int .i64 x0.d.n) ∧ X.cell? ⟨(bd.add (k * 10)).block, (bd.add (k * 10)).off + 6, none⟩ = some (.int .i64 x0.d.g) ∧ X.cell? ⟨(bd.add (k * 10)).block, (bd.add (k * 10)).off + 7, none⟩ = some (.int .i64 x0.d.h) ∧ X.cell? ⟨(bd.add (k * 10)).block, (bd.add (k * 10)).off + 8, none⟩ = some (.bool x0.d.p) ∧ X.cell? ⟨(bd.add (k * 10)).block, (bd.add (k * 10)).off + 9, none⟩ = some (.bool x0.d.c)) := fun X hX => by
          obtain ⟨ad', h1, _, h3⟩ := rc_at (HSU.out.below hX) (show k < _ from hkE2) HM.out.symm
          injection h1 with h1
          subst h1
          rw [hx0]
          exact h3
        obtain ⟨xx, hxx⟩ : ∃ q, q = x0 := ⟨_, rfl⟩
        have HxX : Hid (xx = E[k]) := by rw [Hid, hxx, hx0]
        have HxV : Hid (xx = x0) := hxx
        have HxQX : Hid (RCQ w1 xx) := by rw [hxx]; exact HxQ.out
        clear hx0 hxx
        obtain ⟨xk_, kx, xf, xt, xa_, xd⟩ := x0
        obtain ⟨xA, xc, hxk, hxkc⟩ := HxQ.out.ks.form
        obtain ⟨xE, xq, hxe, hxec⟩ := HxQ.out.ac.form
        simp only at hxk hxkc hxe hxec
        obtain ⟨xn, hxn⟩ : ∃ n, n = kx.length := ⟨_, rfl⟩
        obtain ⟨xm, hxm⟩ : ∃ n, n = xd.b.length := ⟨_, rfl⟩
        rw [← hxn] at hxk hxkc
        rw [← hxm] at hxe hxec
        subst hxk hxe
        have HxE : Hid (Sl w1 w1.heap.size (.slice xE xm xq) 1 xm (bys xd.b) ∧ xd.b.length = xm ∧ Bytes8 xd.b) := ⟨by have h9 := HxQ.out.ac; rw [← hxm] at h9; exact h9, hxm.symm, HxQ.out.a8⟩
        have HxC : Hid (∀ X : World, Below w1.heap.size w1 X → X.cell? (bd.add (k * 10)) = some (.slice xA xn xc) ∧ X.cell? ⟨(bd.add (k * 10)).block, (bd.add (k * 10)).off + 1, none⟩ = some (.int .i64 xf) ∧ X.cell? ⟨(bd.add (k * 10)).block, (bd.add (k * 10)).off + 2, none⟩ = some (.int .i64 xt) ∧ X.cell? ⟨(bd.add (k * 10)).block, (bd.add (k * 10)).off + 3, none⟩ = some (.slice xE xm xq) ∧ X.cell? ⟨(bd.add (k * 10)).block, (bd.add (k * 10)).off + 4, none⟩ = some (.int .i64 xd.s) ∧ X.cell? ⟨(bd.add (k * 10)).block, (bd.add (k * 10)).off + 5, none⟩ = some (.int .i64 xd.n) ∧ X.cell? ⟨(bd.add (k * 10)).block, (bd.add (k * 10)).off + 6, none⟩ = some (.int .i64 xd.g) ∧ X.cell? ⟨(bd.add (k * 10)).block, (bd.add (k * 10)).off + 7, none⟩ = some (.int .i64 xd.h) ∧ X.cell? ⟨(bd.add (k * 10)).block, (bd.add (k * 10)).off + 8, none⟩ = some (.bool xd.p) ∧ X.cell? ⟨(bd.add (k * 10)).block, (bd.add (k * 10)).off + 9, none⟩ = some (.bool xd.c)) := fun X hX => HxC0.out X hX
        have HxL : Hid (xx.cells = [.slice xA xn xc, .int .i64 xf, .int .i64 xt, .slice xE xm xq, .int .i64 xd.s, .int .i64 xd.n, .int .i64 xd.g, .int .i64 xd.h, .bool xd.p, .bool xd.c] ∧ xx.d = xd) := by rw [HxV.out]; exact ⟨rfl, rfl⟩
        clear hxn hxm HxQ HxC0 HxV
        have HZ1 : Hid ((E.take (k + 1)).countP (loR D) = y + (if loR D xx then 1 else 0)) := by
          rw [Hid, HTK.out, ← HxX.out, List.countP_append, List.countP_cons, List.countP_nil, Nat.zero_add, HZ.out]
        have HFD : Hid (∀ p : Aft wr, Calls Try.prog 66 #[.slice lA n lc, .agg #[.slice xA xn xc, .int .i64 xf, .int .i64 xt, .slice xE xm xq, .int .i64 xd.s, .int .i64 xd.n, .int .i64 xd.g, .int .i64 xd.h, .bool xd.p, .bool xd.c]] p.w' fun e w' => e = .returned (.int .i64 (findL xx D 0)) ∧ Below p.w'.heap.size p.w' w') := fun p => by
          have hbp : Below w1.heap.size w1 p.w' := HB.out.trans (p.h.mono HB.out.size)
          have h9 := rfind_any p.w' (.slice lA n lc) D xx (by rw [← HN.out]; exact (HSL.out.below hbp).mono hbp.size) (fun q hq => (HQL.out q hq).below hbp) (HxQX.out.below hbp) (by have := HN.out; omega)
          rw [HxL.out.1] at h9
          exact h9
        have hfs := findL_spec xx D 0
        simp only [Nat.zero_add] at hfs
        obtain ⟨o, ho⟩ : ∃ o, o = findL xx D 0 := ⟨_, rfl⟩
        rw [← ho] at HFD hfs
        have HFS := hide hfs
        clear ho hfs HZ HTK
        go_upto_region 14 with fail
        clear kt0 kt1 hkt
        have kt := HTB.out.below HB.out HTB.out.lt
        have hkt := kt.lt
        have t0 := Aft.cell (kt.cell 0) hkt
        have t1 := Aft.cell (kt.cell 1) hkt
        simp at t0 t1
        clear kt
        obtain ⟨ix0, ix1, ix2, ix3, ix4, ix5, ix6, ix7, ix8, ix9⟩ := HxC.out wr HB.out
        have hbx : (bd.add (k * 10)).block < wr.heap.size := Nat.lt_of_lt_of_le hxab (HB.out).size
        have x0 := Aft.cell ix0 hbx
        have x1 := Aft.cell ix1 hbx
        have x2 := Aft.cell ix2 hbx
        have x3 := Aft.cell ix3 hbx
        have x4 := Aft.cell ix4 hbx
        have x5 := Aft.cell ix5 hbx
        have x6 := Aft.cell ix6 hbx
        have x7 := Aft.cell ix7 hbx
        have x8 := Aft.cell ix8 hbx
        have x9 := Aft.cell ix9 hbx
        clear ix0 ix1 ix2 ix3 ix4 ix5 ix6 ix7 ix8 ix9
        refine wp_region_aft (by kernel_rfl) (by kernel_rfl) ?_
        repeat (go_big_quiet_step (first | (go_at_call 66; with_reducible exact calls_aft (HFD.out _))))
        refine wpQuiet_nil ?_
        intro w9 hb9
        have HB9 := hide (HB.out.trans (hb9.mono HB.out.size))
        clear x0 x1 x2 x3 x4 x5 x6 x7 x8 x9 t0 t1 hkt hbx hb9 HFD HB
        rcases HFS.out with ⟨rfl, hfr⟩ | ⟨j, hj, rfl, hfr⟩
        · have HC : Hid ((E.take (k + 1)).countP (loR D) = y + 1) := by rw [Hid, HZ1.out]; unfold loR; rw [hfr]; rfl
          clear hfr HZ1
          go_wp2_with fail
          go_roundw
          case rel => exact ⟨k + 1, y + 1, by omega, by simp, by first | rfl | (congr 1; omega) | (simp; omega), by omega, HC.out.symm, HB9⟩
          case measure => simp [intOf]; omega
        · have HC : Hid ((E.take (k + 1)).countP (loR D) = y) := by rw [Hid, HZ1.out]; unfold loR; rw [hfr]; rfl
          have hjn : ¬ ((j : Int) < 0) := by omega
          clear hfr HZ1
          go_wp2_with fail
          go_roundw
          case rel => exact ⟨k + 1, y, by omega, by simp, rfl, by omega, HC.out.symm, HB9⟩
          case measure => simp [intOf]; omega
      · have HYE : Hid (y = E.countP (loR D)) := by rw [Hid, HZ.out, List.take_of_length_le (by rw [← HM.out]; omega)]
        have HRE := hide (HR1.out.below HB.out)
        have HFE : Hid (Fr (fun j => j = xb) w wr) := HF.out.trans (Fr.of_below HB.out) (fun _ _ h => h)
        clear HZ
        go_wp2_with fail
        go_ret2
        refine .inr ⟨rfl, ?_, HRE.out, HFE.out⟩
        unfold cntR
        rw [← HZD.out, ← HYE.out, Int.natCast_add]
        rfl
end Go.Proofs.Ytkobaidamdffmaa
