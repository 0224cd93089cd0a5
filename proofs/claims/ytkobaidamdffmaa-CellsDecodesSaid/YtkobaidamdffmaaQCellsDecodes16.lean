/- The reference's table in memory; its Put and Drop (printed by genrd15.py). -/
import Derived.Test.YtkobaidamdffmaaQCellsDecodes15
import Derived.Test.YtkobaidamdffmaaQCellsDecodes02
import Derived.BigQuiet

namespace Go.Proofs.Ytkobaidamdffmaa
open Go.RowKit Go.Sort
set_option linter.unusedVariables false
set_option linter.unusedSimpArgs false

abbrev rtT : Nat := 68
theorem tyRC : SlTy Try.prog 22 rcT 10 104 (.agg #[.slice none 0 0, .int .i64 0, .int .i64 0, .slice none 0 0, .int .i64 0, .int .i64 0, .int .i64 0, .int .i64 0, .bool false, .bool false]) := ⟨Try.underlying22, info_parts (by kernel_rfl), rfl, by omega⟩
theorem rcs_app (C D : List RC) : rcs (C ++ D) = rcs C ++ rcs D := List.flatMap_append ..
theorem rcs_ok (D : List RC) (h : ∀ x ∈ D, x.k.oneCell' = true ∧ x.a.oneCell' = true) : ∀ u ∈ rcs D, u.oneCell' = true := by
  intro u hu
  simp only [rcs, List.mem_flatMap] at hu
  obtain ⟨x, hx, hp⟩ := hu
  simp only [RC.cells, List.mem_cons, List.not_mem_nil, or_false] at hp
  rcases hp with rfl | rfl | rfl | rfl | rfl | rfl | rfl | rfl | rfl | rfl
  · exact (h x hx).1
  · rfl
  · rfl
  · exact (h x hx).2
  all_goals rfl
/-- a reference's table in memory: its list D, what it was at Begin: E -/
structure RT (wq X : World) (base xb : Nat) (v : Value) (D : List RC) (u : Value) (E : List RC) (b : Bool) : Prop where
  blk : Blk X xb rtT #[v, u, .bool b]
  own : Own X base rcT 10 v D.length (rcs D)
  was : Own X base rcT 10 u E.length (rcs E)
  q : ∀ x ∈ D, RCQ wq x
  qw : ∀ x ∈ E, RCQ wq x
  bl : Below wq.heap.size wq X
  lo : base ≤ xb
theorem RT.below {wq X Z : World} {base xb : Nat} {v u : Value} {D E : List RC} {b : Bool} (h : RT wq X base xb v D u E b) (k : Below X.heap.size X Z) : RT wq Z base xb v D u E b :=
  ⟨h.blk.below k h.blk.lt, h.own.below k, h.was.below k, h.q, h.qw, h.bl.trans (k.mono h.bl.size), h.lo⟩
theorem RT.kt {wq X Z : World} {base xb : Nat} {v u : Value} {D E : List RC} {b : Bool} (h : RT wq X base xb v D u E b) (k : Kt X Z) (hb : Below wq.heap.size wq Z) : RT wq Z base xb v D u E b :=
  ⟨k.blk h.blk (by decide), k.own h.own (by decide), k.own h.was (by decide), h.q, h.qw, hb, h.lo⟩
theorem RCQ.below {w w' : World} {x : RC} (h : RCQ w x) (k : Below w.heap.size w w') : RCQ w' x := ⟨(h.ks.below k).mono k.size, h.kn, h.k8, (h.ac.below k).mono k.size, h.an, h.a8⟩
def ordR (x y : RC) : Int := ordC ⟨x.f, x.t⟩ ⟨y.f, y.t⟩ x.kb y.kb
/-- Put -/
def putL (x : RC) : Bool → List RC → List RC
  | p, [] => if p then [] else [x]
  | p, y :: D => if ordR x y = 0 then putL x p D else if ordR x y < 0 ∧ p = false then x :: y :: putL x true D else y :: putL x p D
theorem putL_len (x : RC) : ∀ (p : Bool) (D : List RC), (putL x p D).length ≤ D.length + (if p then 0 else 1)
  | p, [] => by cases p <;> simp [putL]
  | p, y :: D => by
    have h1 := putL_len x p D
    have h2 := putL_len x true D
    unfold putL
    split
    · simp only [List.length_cons]; omega
    · split
      · next h => rw [h.2]; simp only [List.length_cons] at h2 ⊢; simp at h2 ⊢; omega
      · simp only [List.length_cons]; omega
theorem putL_mem (x : RC) : ∀ (p : Bool) (D : List RC) (z : RC), z ∈ putL x p D → z = x ∨ z ∈ D
  | p, [], z, h => by
    cases p
    · simp [putL] at h; exact .inl h
    · simp [putL] at h
  | p, y :: D, z, h => by
    unfold putL at h
    split at h
    · rcases putL_mem x p D z h with h9 | h9
      · exact .inl h9
      · exact .inr (List.mem_cons_of_mem _ h9)
    · split at h
      · rcases List.mem_cons.1 h with h9 | h9
        · exact .inl h9
        · rcases List.mem_cons.1 h9 with h8 | h8
          · exact .inr (by rw [h8]; exact List.mem_cons_self)
          · rcases putL_mem x true D z h8 with h7 | h7
            · exact .inl h7
            · exact .inr (List.mem_cons_of_mem _ h7)
      · rcases List.mem_cons.1 h with h8 | h8
        · exact .inr (by rw [h8]; exact List.mem_cons_self)
        · rcases putL_mem x p D z h8 with h7 | h7
          · exact .inl h7
          · exact .inr (List.mem_cons_of_mem _ h7)
def dropL (x : RC) (D : List RC) : List RC := D.filter fun y => decide (ordR y x ≠ 0)
theorem RT.put_ {wq w wr : World} {base xb : Nat} {v u o : Value} {D E M : List RC} {b : Bool} (h : RT wq w base xb v D u E b) (hb : Below w.heap.size w wr) (ho : Own wr w.heap.size rcT 10 o M.length (rcs M)) (hq : ∀ x ∈ M, RCQ wq x) (hwb : wq.heap.size ≤ xb) :
    RT wq (wr.setCell ⟨xb, 0, none⟩ o) base xb o M u E b ∧ Fr (fun j => j = xb) w (wr.setCell ⟨xb, 0, none⟩ o) := by
  have h2 := h.below hb
  have hf : Fr (fun j => j = xb) wr (wr.setCell ⟨xb, 0, none⟩ o) := Fr.put (S := fun j => j = xb) (Fr.refl _ wr) (p := ⟨xb, 0, none⟩) (.inl rfl) o
  have hne : ∀ {bs : Nat} {z : Value} {n : Nat} {cs : List Value}, Own wr bs rcT 10 z n cs → Own (wr.setCell ⟨xb, 0, none⟩ o) bs rcT 10 z n cs := fun k => k.fr hf (fun g hg e => k.ne h2.blk (by decide) (by rw [hg, e]))
  have hxw : base ≤ w.heap.size := Nat.le_trans h.lo (Nat.le_of_lt h.blk.lt)
  refine ⟨⟨?_, (hne ho).lower hxw, hne h2.was, hq, h.qw, h2.bl.trans (hf.below h2.bl.size (fun k hk e => by omega)), h.lo⟩, (Fr.of_below hb).trans hf (fun _ _ e => e)⟩
  have h9 := h2.blk.put 0 o
  simpa using h9
theorem rc_app {w1 wr w5 : World} {M : List RC} {z : RC} {v v' : Value} {cs : Array Value} (ho : Own wr w1.heap.size rcT 10 v M.length (rcs M)) (hb : Below w1.heap.size w1 wr) (ha : App (wr.alloc (.cells cs rcT)) w1.heap.size rcT 10 v (M.length + 1) (rcs M ++ rcs [z]) v' w5) :
    Own w5 w1.heap.size rcT 10 v' (M ++ [z]).length (rcs (M ++ [z])) ∧ Below w1.heap.size w1 w5 := by
  refine ⟨?_, (hb.alloc hb.size _).trans (ha.fr.below (hb.alloc hb.size _).size (fun k hk h9 => by have := (ho.lt k h9).1; omega))⟩
  rw [List.length_append, rcs_app]
  exact ha.own

set_option maxRecDepth 100000 in
set_option maxHeartbeats 8000000 in
theorem rput_any (wq w : World) (base xb : Nat) (v u : Value) (D E : List RC) (b : Bool) (x : RC) (h : RT wq w base xb v D u E b) (hx : RCQ wq x) (hD : D.length ≤ 100000) (hwb : wq.heap.size ≤ xb) :
    Calls Try.prog 29 #[.pointer (some ⟨xb, 0, none⟩), .agg x.cells.toArray] w fun e w' => e = .returned (.tuple #[]) ∧ ∃ o, RT wq w' base xb o (putL x false D) u E b ∧ Fr (fun j => j = xb) w w' := by
  have HT := hide h
  have HX := hide hx
  have hbl := h.blk.lt
  have hzq := h.bl.size
  obtain ⟨lA, lc, hlv, hlc⟩ := h.own.sl.form
  subst hlv
  obtain ⟨n, hn⟩ : ∃ n, n = D.length := ⟨_, rfl⟩
  have HN := hide hn
  have HLO : Hid (Own w base rcT 10 (.slice lA n lc) n (rcs D)) := by have h9 := h.own; rw [← hn] at h9; exact h9
  have HTB : Hid (Blk w xb rtT #[.slice lA n lc, u, .bool b]) := by have h9 := h.blk; rw [← hn] at h9; exact h9
  obtain ⟨x0, hx0⟩ : ∃ x0, x0 = x := ⟨_, rfl⟩
  have HX0 : Hid (x0.k.oneCell' = true ∧ x0.a.oneCell' = true) := by
    obtain ⟨A1, c1, h1, _⟩ := hx.ks.form
    obtain ⟨A2, c2, h2, _⟩ := hx.ac.form
    rw [hx0, h1, h2]
    exact ⟨rfl, rfl⟩
  have HXV : Hid (x0 = x) := hx0
  have HXQ : Hid (RCQ wq x0) := by rw [hx0]; exact hx
  rw [← hn] at hlc hD
  clear h hn hx hx0
  obtain ⟨xk, kx, xf, xt, xa, xd⟩ := x
  obtain ⟨xA, xc, hxk, hxkc⟩ := HX.out.ks.form
  obtain ⟨xE, xq, hxe, hxec⟩ := HX.out.ac.form
  simp only at hxk hxkc hxe hxec
  obtain ⟨xn, hxn⟩ : ∃ n, n = kx.length := ⟨_, rfl⟩
  obtain ⟨xm, hxm⟩ : ∃ n, n = xd.b.length := ⟨_, rfl⟩
  rw [← hxn] at hxk hxkc
  rw [← hxm] at hxe hxec
  subst hxk hxe
  have HXS : Hid (Sl wq wq.heap.size (.slice xA xn xc) 1 xn (bys kx) ∧ kx.length = xn ∧ Bytes8 kx) := ⟨by have h9 := HX.out.ks; rw [← hxn] at h9; exact h9, hxn.symm, HX.out.k8⟩
  have HXX : Hid (x0.f = xf ∧ x0.t = xt ∧ x0.kb = kx) := by rw [HXV.out]; exact ⟨rfl, rfl, rfl⟩
  have HXC : Hid (x0.cells = [.slice xA xn xc, .int .i64 xf, .int .i64 xt, .slice xE xm xq, .int .i64 xd.s, .int .i64 xd.n, .int .i64 xd.g, .int .i64 xd.h, .bool xd.p, .bool xd.c]) := by rw [HXV.out]; rfl
  have hxe : (⟨.slice xA xn xc, kx, xf, xt, .slice xE xm xq, xd⟩ : RC) = x0 := HXV.out.symm
  unfold RC.cells
  simp only
  rw [hxe]
  clear HX hxn hxm HXV hxe
  have HB1 : Hid (Below w.heap.size w (w.alloc (.cells #[.slice xA xn xc, .int .i64 xf, .int .i64 xt, .slice xE xm xq, .int .i64 xd.s, .int .i64 xd.n, .int .i64 xd.g, .int .i64 xd.h, .bool xd.p, .bool xd.c] rcT))) := (Below.refl w.heap.size w).alloc (Nat.le_refl _) _
  have HC1 : Hid (Blk (w.alloc (.cells #[.slice xA xn xc, .int .i64 xf, .int .i64 xt, .slice xE xm xq, .int .i64 xd.s, .int .i64 xd.n, .int .i64 xd.g, .int .i64 xd.h, .bool xd.p, .bool xd.c] rcT)) w.heap.size rcT #[.slice xA xn xc, .int .i64 xf, .int .i64 xt, .slice xE xm xq, .int .i64 xd.s, .int .i64 xd.n, .int .i64 xd.g, .int .i64 xd.h, .bool xd.p, .bool xd.c]) := Blk.new w _ _
  go_enter Try.func29, Try.ntmps29
  go_upto_region 4 with fail
  change Code.wp _ _ _ _ (w.alloc (.cells #[.slice xA xn xc, .int .i64 xf, .int .i64 xt, .slice xE xm xq, .int .i64 xd.s, .int .i64 xd.n, .int .i64 xd.g, .int .i64 xd.h, .bool xd.p, .bool xd.c] rcT))
  generalize (w.alloc (.cells #[.slice xA xn xc, .int .i64 xf, .int .i64 xt, .slice xE xm xq, .int .i64 xd.s, .int .i64 xd.n, .int .i64 xd.g, .int .i64 xd.h, .bool xd.p, .bool xd.c] rcT)) = w1 at *
  obtain ⟨cb, hcb⟩ : ∃ cb, cb = w.heap.size := ⟨_, rfl⟩
  rw [← hcb] at HC1 ⊢
  have hcw : cb = w.heap.size := hcb
  clear hcb
  have hc1 := HC1.out.lt
  have HCW := hide hcw
  have hz1 := HB1.out.size
  clear hcw
  go_loopw [4, 5, 6] (fun o p i wr => ∃ (k : Nat) (M : List RC) (pb : Bool), k ≤ n ∧ i = .int .i64 k ∧ p = .bool pb ∧ Hid (putL x0 false D = M ++ putL x0 pb (D.drop k)) ∧ M.length ≤ k + 1 ∧ Hid (pb = false → M.length ≤ k) ∧ Hid (∀ z ∈ M, RCQ wq z) ∧ Hid (Own wr w1.heap.size rcT 10 o M.length (rcs M) ∧ Below w1.heap.size w1 wr)) (fun _ _ i _ => n - (intOf i).toNat)
  case atStart => exact ⟨0, [], false, Nat.zero_le _, rfl, rfl, by simp [Hid], Nat.zero_le _, (fun _ => Nat.zero_le _), (fun z hz => by cases hz), Own.nil _ _ _ _, Below.refl _ _⟩
  case round =>
  obtain ⟨k, M, pb, hk, rfl, rfl, HP, hml, HPL, HMQ, HI⟩ := hrel
  obtain ⟨oA, oc, rfl, hoc⟩ := HI.out.1.sl.form
  have hzr := HI.out.2.size
  have HBR : Hid (Below w.heap.size w wr) := HB1.out.trans (HI.out.2.mono HB1.out.size)
  have hTB := HTB.out.below HBR.out HTB.out.lt
  have t0 : wr.cell? ⟨xb, 0, none⟩ = some (.slice lA n lc) := hTB.cell 0
  have htl := hTB.lt
  clear hTB
  have hcl : cb < wr.heap.size := by omega
  by_cases hlt : k < n
  · have hkD : k < D.length := by rw [← HN.out]; exact hlt
    have hki : (k : Int) < (n : Int) := by omega
    obtain ⟨y0, hy0⟩ : ∃ y, y = D[k] := ⟨_, rfl⟩
    have HYQ : Hid (RCQ wq y0) := HT.out.q _ (by rw [hy0]; exact List.getElem_mem hkD)
    obtain ⟨ad, hlA, hab, -, -, -, -, -, -, -, -, -, -⟩ := rc_at HLO.out.sl hlt HN.out.symm
    subst hlA
    have HEL : Hid (∀ X : World, Below w.heap.size w X → X.cell? (ad.add (k * 10)) = some y0.k ∧ X.cell? ⟨(ad.add (k * 10)).block, (ad.add (k * 10)).off + 1, none⟩ = some (.int .i64 y0.f) ∧ X.cell? ⟨(ad.add (k * 10)).block, (ad.add (k * 10)).off + 2, none⟩ = some (.int .i64 y0.t) ∧ X.cell? ⟨(ad.add (k * 10)).block, (ad.add (k * 10)).off + 3, none⟩ = some (y0.a) ∧ X.cell? ⟨(ad.add (k * 10)).block, (ad.add (k * 10)).off + 4, none⟩ = some (.int .i64 y0.d.s) ∧ X.cell? ⟨(ad.add (k * 10)).block, (ad.add (k * 10)).off + 5, none⟩ = some (.int .i64 y0.d.n) ∧ X.cell? ⟨(ad.add (k * 10)).block, (ad.add (k * 10)).off + 6, none⟩ = some (.int .i64 y0.d.g) ∧ X.cell? ⟨(ad.add (k * 10)).block, (ad.add (k * 10)).off + 7, none⟩ = some (.int .i64 y0.d.h) ∧ X.cell? ⟨(ad.add (k * 10)).block, (ad.add (k * 10)).off + 8, none⟩ = some (.bool y0.d.p) ∧ X.cell? ⟨(ad.add (k * 10)).block, (ad.add (k * 10)).off + 9, none⟩ = some (.bool y0.d.c)) := fun X hX => by
      obtain ⟨ad', h1, _, h3⟩ := rc_at (HLO.out.below hX).sl hlt HN.out.symm
      injection h1 with h1
      subst h1
      rw [hy0]
      exact h3
    have HYP : Hid (D.drop k = y0 :: D.drop (k + 1) ∧ D.take (k + 1) = D.take k ++ [y0]) := by rw [hy0]; exact ⟨List.drop_eq_getElem_cons hkD, List.take_succ_eq_append_getElem hkD⟩
    clear hy0
    obtain ⟨ya0, hya0⟩ : ∃ y, y = y0 := ⟨_, rfl⟩
    have HY0 : Hid (ya0 = y0) := hya0
    have HYQ2 : Hid (RCQ wq ya0) := by rw [hya0]; exact HYQ.out
    have HYP2 : Hid (D.drop k = ya0 :: D.drop (k + 1) ∧ D.take (k + 1) = D.take k ++ [ya0]) := by rw [hya0]; exact HYP.out
    clear hya0 HYP
    have HYV : Hid (ya0.k.oneCell' = true ∧ ya0.a.oneCell' = true) := by
      obtain ⟨A1, c1, h1, _⟩ := HYQ2.out.ks.form
      obtain ⟨A2, c2, h2, _⟩ := HYQ2.out.ac.form
      rw [h1, h2]
      exact ⟨rfl, rfl⟩
    obtain ⟨yk, ky, yf, yt, ya, yd⟩ := y0
    obtain ⟨yA, yc, hyk, hykc⟩ := HYQ.out.ks.form
    obtain ⟨yE, yq, hye, hyec⟩ := HYQ.out.ac.form
    simp only at hyk hykc hye hyec
    obtain ⟨yn, hyn⟩ : ∃ n, n = ky.length := ⟨_, rfl⟩
    obtain ⟨ym, hym⟩ : ∃ n, n = yd.b.length := ⟨_, rfl⟩
    rw [← hyn] at hyk hykc
    rw [← hym] at hye hyec
    subst hyk hye
    have HYS : Hid (Sl wq wq.heap.size (.slice yA yn yc) 1 yn (bys ky) ∧ ky.length = yn ∧ Bytes8 ky) := ⟨by have h9 := HYQ.out.ks; rw [← hyn] at h9; exact h9, hyn.symm, HYQ.out.k8⟩
    have HYC : Hid (ya0.cells = [.slice yA yn yc, .int .i64 yf, .int .i64 yt, .slice yE ym yq, .int .i64 yd.s, .int .i64 yd.n, .int .i64 yd.g, .int .i64 yd.h, .bool yd.p, .bool yd.c]) := by rw [HY0.out, hyn, hym]; rfl
    have HYX : Hid (ya0.f = yf ∧ ya0.t = yt ∧ ya0.kb = ky) := by rw [HY0.out]; exact ⟨rfl, rfl, rfl⟩
    simp only at HEL
    have HEL2 : Hid (∀ X : World, Below w.heap.size w X → X.cell? (ad.add (k * 10)) = some (.slice yA yn yc) ∧ X.cell? ⟨(ad.add (k * 10)).block, (ad.add (k * 10)).off + 1, none⟩ = some (.int .i64 yf) ∧ X.cell? ⟨(ad.add (k * 10)).block, (ad.add (k * 10)).off + 2, none⟩ = some (.int .i64 yt) ∧ X.cell? ⟨(ad.add (k * 10)).block, (ad.add (k * 10)).off + 3, none⟩ = some (.slice yE ym yq) ∧ X.cell? ⟨(ad.add (k * 10)).block, (ad.add (k * 10)).off + 4, none⟩ = some (.int .i64 yd.s) ∧ X.cell? ⟨(ad.add (k * 10)).block, (ad.add (k * 10)).off + 5, none⟩ = some (.int .i64 yd.n) ∧ X.cell? ⟨(ad.add (k * 10)).block, (ad.add (k * 10)).off + 6, none⟩ = some (.int .i64 yd.g) ∧ X.cell? ⟨(ad.add (k * 10)).block, (ad.add (k * 10)).off + 7, none⟩ = some (.int .i64 yd.h) ∧ X.cell? ⟨(ad.add (k * 10)).block, (ad.add (k * 10)).off + 8, none⟩ = some (.bool yd.p) ∧ X.cell? ⟨(ad.add (k * 10)).block, (ad.add (k * 10)).off + 9, none⟩ = some (.bool yd.c)) := fun X hX => HEL.out X hX
    clear hyn hym HYQ HY0 HEL
    obtain ⟨o, ho⟩ : ∃ o, o = ordR x0 ya0 := ⟨_, rfl⟩
    have HO := hide ho
    have HOD : Hid (∀ p : Aft wr, Calls Try.prog 16 #[.agg #[.slice xA xn xc, .int .i64 xf, .int .i64 xt, .slice xE xm xq, .int .i64 xd.s, .int .i64 xd.n, .int .i64 xd.g, .int .i64 xd.h, .bool xd.p, .bool xd.c], .agg #[.slice yA yn yc, .int .i64 yf, .int .i64 yt, .slice yE ym yq, .int .i64 yd.s, .int .i64 yd.n, .int .i64 yd.g, .int .i64 yd.h, .bool yd.p, .bool yd.c]] p.w' fun e w' => e = .returned (.int .i64 o) ∧ Below p.w'.heap.size p.w' w') := fun p => by
      have hbp : Below wq.heap.size wq p.w' := HT.out.bl.trans ((HBR.out.trans (p.h.mono HBR.out.size)).mono hzq)
      have h9 := rorder_any xA yA xE yE xc yc xm ym xq yq kx ky xf xt yf yt xd.s xd.n xd.g xd.h yd.s yd.n yd.g yd.h xd.p xd.c yd.p yd.c wq.heap.size wq.heap.size p.w' (by rw [HXS.out.2.1]; exact HXS.out.1.below hbp) (by rw [HYS.out.2.1]; exact HYS.out.1.below hbp) HXS.out.2.2 HYS.out.2.2 hbp.size hbp.size
      rw [HXS.out.2.1, HYS.out.2.1] at h9
      have h8 := ho
      unfold ordR at h8
      rw [HXX.out.1, HXX.out.2.1, HXX.out.2.2, HYX.out.1, HYX.out.2.1, HYX.out.2.2] at h8
      rw [← h8] at h9
      exact h9
    clear ho
    have hab2 : (ad.add (k * 10)).block < wr.heap.size := Nat.lt_of_lt_of_le hab HBR.out.size
    go_wp2_with fail
    have k0 := HC1.out.below HI.out.2 hc1
    have c0 := Aft.cell (k0.cell 0) hcl
    have c1 := Aft.cell (k0.cell 1) hcl
    have c2 := Aft.cell (k0.cell 2) hcl
    have c3 := Aft.cell (k0.cell 3) hcl
    have c4 := Aft.cell (k0.cell 4) hcl
    have c5 := Aft.cell (k0.cell 5) hcl
    have c6 := Aft.cell (k0.cell 6) hcl
    have c7 := Aft.cell (k0.cell 7) hcl
    have c8 := Aft.cell (k0.cell 8) hcl
    have c9 := Aft.cell (k0.cell 9) hcl
    obtain ⟨b0, b1, b2, b3, b4, b5, b6, b7, b8, b9⟩ := HEL2.out wr HBR.out
    have a0 := Aft.cell b0 hab2
    have a1 := Aft.cell b1 hab2
    have a2 := Aft.cell b2 hab2
    have a3 := Aft.cell b3 hab2
    have a4 := Aft.cell b4 hab2
    have a5 := Aft.cell b5 hab2
    have a6 := Aft.cell b6 hab2
    have a7 := Aft.cell b7 hab2
    have a8 := Aft.cell b8 hab2
    have a9 := Aft.cell b9 hab2
    have s0 := Aft.cell t0 htl
    simp at c0 c1 c2 c3 c4 c5 c6 c7 c8 c9
    clear b0 b1 b2 b3 b4 b5 b6 b7 b8 b9 k0
    refine wp_region_aft (by kernel_rfl) (by kernel_rfl) ?_
    repeat (go_big_quiet_step (first | (go_at_call 16; with_reducible exact calls_aft (HOD.out _))))
    refine wpQuiet_nil ?_
    intro w9 hb9
    clear c0 c1 c2 c3 c4 c5 c6 c7 c8 c9 a0 a1 a2 a3 a4 a5 a6 a7 a8 a9 s0 t0
    have HI9 : Hid (Go.Proofs.Ytkobaidamdffmaa.Own w9 w1.heap.size rcT 10 (.slice oA M.length oc) M.length (rcs M) ∧ Below w1.heap.size w1 w9) := ⟨HI.out.1.below hb9, HI.out.2.trans (hb9.mono hzr)⟩
    clear hb9 HOD HI HBR hab2 htl hcl hzr
    have HPD : Hid (putL x0 pb (D.drop k) = if ordR x0 ya0 = 0 then putL x0 pb (D.drop (k + 1)) else if ordR x0 ya0 < 0 ∧ pb = false then x0 :: ya0 :: putL x0 true (D.drop (k + 1)) else ya0 :: putL x0 pb (D.drop (k + 1))) := by rw [Hid, HYP2.out.1]; rfl
    rw [← HO.out] at HPD
    by_cases h0 : o = 0
    · subst h0
      have HPN : Hid (putL x0 false D = M ++ putL x0 pb (D.drop (k + 1))) := by rw [Hid, HP.out, HPD.out, if_pos rfl]
      clear HPD HP HO
      go_wp2_with fail
      go_roundw
      case rel => exact ⟨k + 1, M, pb, by omega, by simp, rfl, HPN, by omega, (fun h9 => by have := HPL.out h9; omega), HMQ, HI9⟩
      case measure => simp [intOf]; omega
    · have e0 : (o == 0) = false := by rw [beq_eq_false_iff_ne]; exact h0
      by_cases h1 : o < 0 ∧ pb = false
      · obtain ⟨h1, rfl⟩ := h1
        have HPN : Hid (putL x0 false D = ((M ++ [x0]) ++ [ya0]) ++ putL x0 true (D.drop (k + 1))) := by rw [Hid, HP.out, HPD.out, if_neg h0, if_pos ⟨h1, rfl⟩]; simp
        clear HPD HP HO
        have k0 := HC1.out.below HI9.out.2 hc1
        have c0 : w9.cell? ⟨cb, 0, none⟩ = some (.slice xA xn xc) := k0.cell 0
        have c1 : w9.cell? ⟨cb, 1, none⟩ = some (.int .i64 xf) := k0.cell 1
        have c2 : w9.cell? ⟨cb, 2, none⟩ = some (.int .i64 xt) := k0.cell 2
        have c3 : w9.cell? ⟨cb, 3, none⟩ = some (.slice xE xm xq) := k0.cell 3
        have c4 : w9.cell? ⟨cb, 4, none⟩ = some (.int .i64 xd.s) := k0.cell 4
        have c5 : w9.cell? ⟨cb, 5, none⟩ = some (.int .i64 xd.n) := k0.cell 5
        have c6 : w9.cell? ⟨cb, 6, none⟩ = some (.int .i64 xd.g) := k0.cell 6
        have c7 : w9.cell? ⟨cb, 7, none⟩ = some (.int .i64 xd.h) := k0.cell 7
        have c8 : w9.cell? ⟨cb, 8, none⟩ = some (.bool xd.p) := k0.cell 8
        have c9 : w9.cell? ⟨cb, 9, none⟩ = some (.bool xd.c) := k0.cell 9
        have hcl := k0.lt
        clear k0
        have HSL : Hid (∀ W : World, Sl (W.alloc (.cells #[.slice xA xn xc, .int .i64 xf, .int .i64 xt, .slice xE xm xq, .int .i64 xd.s, .int .i64 xd.n, .int .i64 xd.g, .int .i64 xd.h, .bool xd.p, .bool xd.c] rcT)) (W.heap.size + 1) (.slice (some ⟨W.heap.size, 0, none⟩) 1 1) 10 1 (rcs [x0])) := fun W => by
          have h9 := (Sl.of_own (Own.new (n := 1) (sz := 10) (e := rcT) (base := 0) W #[.slice xA xn xc, .int .i64 xf, .int .i64 xt, .slice xE xm xq, .int .i64 xd.s, .int .i64 xd.n, .int .i64 xd.g, .int .i64 xd.h, .bool xd.p, .bool xd.c] (by omega) (by omega) rfl)).mono (show _ ≤ W.heap.size + 1 by simp)
          have h8 : rcs [x0] = #[.slice xA xn xc, .int .i64 xf, .int .i64 xt, .slice xE xm xq, .int .i64 xd.s, .int .i64 xd.n, .int .i64 xd.g, .int .i64 xd.h, .bool xd.p, .bool xd.c].toList := by rw [rcs, List.flatMap_singleton, HXC.out]
          rw [h8]
          exact h9
        have HOA : Hid (∀ cs, Go.Proofs.Ytkobaidamdffmaa.Own (w9.alloc (.cells cs rcT)) w1.heap.size rcT 10 (.slice oA M.length oc) M.length (rcs M)) := fun cs => HI9.out.1.below ((Below.refl _ _).alloc (Nat.le_refl _) _)
        have hzw : w1.heap.size ≤ w9.heap.size := HI9.out.2.size
        go_wp2_with (at_builtin; refine wpList_app rfl tyRC (.tmp 34) (.tmp 36) rfl w1.heap.size (n := M.length) (m := 1) (B := w9.heap.size + 1) (xs := rcs M) (news := rcs [x0]) rfl rfl (by exact HOA.out _) (by exact HSL.out w9) (rcs_ok _ (by intro u hu; simp only [List.mem_singleton] at hu; subst hu; exact HX0.out)) (by omega) (by omega) (by simp; omega) ?_)
        intro v5 w5 ha5
        have HI5 := hide (rc_app HI9.out.1 HI9.out.2 ha5)
        have HMQ5 : Hid (∀ z ∈ M ++ [x0], RCQ wq z) := fun z hz => by
          rcases List.mem_append.1 hz with h9 | h9
          · exact HMQ.out z h9
          · rw [List.mem_singleton.1 h9]; exact HXQ.out
        clear ha5 HSL HOA hzw
        clear c0 c1 c2 c3 c4 c5 c6 c7 c8 c9 hcl HI9 HMQ
        obtain ⟨M1, hM1⟩ : ∃ M1, M1 = M ++ [x0] := ⟨_, rfl⟩
        have hm1 : M1.length ≤ k + 1 := by rw [hM1]; have := HPL.out (by first | rfl | trivial); simp; omega
        rw [← hM1] at HI5 HMQ5 HPN
        clear hM1 hoc
        obtain ⟨oA, oc, hv5, hoc⟩ := HI5.out.1.sl.form
        subst hv5
        have hbw : Below w.heap.size w w5 := HB1.out.trans (HI5.out.2.mono HB1.out.size)
        obtain ⟨a0, a1, a2, a3, a4, a5, a6, a7, a8, a9⟩ := HEL2.out w5 hbw
        have t0 : w5.cell? ⟨xb, 0, none⟩ = some (.slice (some ad) n lc) := (HTB.out.below hbw HTB.out.lt).cell 0
        have htl : xb < w5.heap.size := (HTB.out.below hbw HTB.out.lt).lt
        have hab2 : (ad.add (k * 10)).block < w5.heap.size := Nat.lt_of_lt_of_le hab hbw.size
        clear hbw
        have HSL : Hid (∀ W : World, Sl (W.alloc (.cells #[.slice yA yn yc, .int .i64 yf, .int .i64 yt, .slice yE ym yq, .int .i64 yd.s, .int .i64 yd.n, .int .i64 yd.g, .int .i64 yd.h, .bool yd.p, .bool yd.c] rcT)) (W.heap.size + 1) (.slice (some ⟨W.heap.size, 0, none⟩) 1 1) 10 1 (rcs [ya0])) := fun W => by
          have h9 := (Sl.of_own (Own.new (n := 1) (sz := 10) (e := rcT) (base := 0) W #[.slice yA yn yc, .int .i64 yf, .int .i64 yt, .slice yE ym yq, .int .i64 yd.s, .int .i64 yd.n, .int .i64 yd.g, .int .i64 yd.h, .bool yd.p, .bool yd.c] (by omega) (by omega) rfl)).mono (show _ ≤ W.heap.size + 1 by simp)
          have h8 : rcs [ya0] = #[.slice yA yn yc, .int .i64 yf, .int .i64 yt, .slice yE ym yq, .int .i64 yd.s, .int .i64 yd.n, .int .i64 yd.g, .int .i64 yd.h, .bool yd.p, .bool yd.c].toList := by rw [rcs, List.flatMap_singleton, HYC.out]
          rw [h8]
          exact h9
        have HOA : Hid (∀ cs, Go.Proofs.Ytkobaidamdffmaa.Own (w5.alloc (.cells cs rcT)) w1.heap.size rcT 10 (.slice oA M1.length oc) M1.length (rcs M1)) := fun cs => HI5.out.1.below ((Below.refl _ _).alloc (Nat.le_refl _) _)
        have hzw : w1.heap.size ≤ w5.heap.size := HI5.out.2.size
        go_wp2_with (at_builtin; refine wpList_app rfl tyRC (.tmp 38) (.tmp 46) rfl w1.heap.size (n := M1.length) (m := 1) (B := w5.heap.size + 1) (xs := rcs M1) (news := rcs [ya0]) rfl rfl (by exact HOA.out _) (by exact HSL.out w5) (rcs_ok _ (by intro u hu; simp only [List.mem_singleton] at hu; subst hu; exact HYV.out)) (by omega) (by omega) (by simp; omega) ?_)
        intro v6 w6 ha5
        have HI6 := hide (rc_app HI5.out.1 HI5.out.2 ha5)
        have HMQ6 : Hid (∀ z ∈ M1 ++ [ya0], RCQ wq z) := fun z hz => by
          rcases List.mem_append.1 hz with h9 | h9
          · exact HMQ5.out z h9
          · rw [List.mem_singleton.1 h9]; exact HYQ2.out
        clear ha5 HSL HOA hzw
        clear a0 a1 a2 a3 a4 a5 a6 a7 a8 a9 t0 htl hab2 HI5 HMQ5
        go_wp2_with fail
        go_roundw
        case rel => exact ⟨k + 1, M1 ++ [ya0], true, by omega, by simp, rfl, HPN, by simp; omega, (fun h9 => by cases h9), HMQ6, HI6⟩
        case measure => simp [intOf]; omega
      · have HPN : Hid (putL x0 false D = (M ++ [ya0]) ++ putL x0 pb (D.drop (k + 1))) := by rw [Hid, HP.out, HPD.out, if_neg h0, if_neg h1]; simp
        clear HPD HP HO
        have h2 : ¬ o < 0 ∨ (o < 0 ∧ pb = true) := by
          by_cases h9 : o < 0
          · right; refine ⟨h9, ?_⟩
            cases pb
            · exact absurd ⟨h9, rfl⟩ h1
            · rfl
          · exact .inl h9
        clear h1
        rcases h2 with h2 | ⟨h2, rfl⟩
        all_goals
          have hbw : Below w.heap.size w w9 := HB1.out.trans (HI9.out.2.mono HB1.out.size)
          obtain ⟨a0, a1, a2, a3, a4, a5, a6, a7, a8, a9⟩ := HEL2.out w9 hbw
          have t0 : w9.cell? ⟨xb, 0, none⟩ = some (.slice (some ad) n lc) := (HTB.out.below hbw HTB.out.lt).cell 0
          have htl : xb < w9.heap.size := (HTB.out.below hbw HTB.out.lt).lt
          have hab2 : (ad.add (k * 10)).block < w9.heap.size := Nat.lt_of_lt_of_le hab hbw.size
          clear hbw
          have HSL : Hid (∀ W : World, Sl (W.alloc (.cells #[.slice yA yn yc, .int .i64 yf, .int .i64 yt, .slice yE ym yq, .int .i64 yd.s, .int .i64 yd.n, .int .i64 yd.g, .int .i64 yd.h, .bool yd.p, .bool yd.c] rcT)) (W.heap.size + 1) (.slice (some ⟨W.heap.size, 0, none⟩) 1 1) 10 1 (rcs [ya0])) := fun W => by
            have h9 := (Sl.of_own (Own.new (n := 1) (sz := 10) (e := rcT) (base := 0) W #[.slice yA yn yc, .int .i64 yf, .int .i64 yt, .slice yE ym yq, .int .i64 yd.s, .int .i64 yd.n, .int .i64 yd.g, .int .i64 yd.h, .bool yd.p, .bool yd.c] (by omega) (by omega) rfl)).mono (show _ ≤ W.heap.size + 1 by simp)
            have h8 : rcs [ya0] = #[.slice yA yn yc, .int .i64 yf, .int .i64 yt, .slice yE ym yq, .int .i64 yd.s, .int .i64 yd.n, .int .i64 yd.g, .int .i64 yd.h, .bool yd.p, .bool yd.c].toList := by rw [rcs, List.flatMap_singleton, HYC.out]
            rw [h8]
            exact h9
          have HOA : Hid (∀ cs, Go.Proofs.Ytkobaidamdffmaa.Own (w9.alloc (.cells cs rcT)) w1.heap.size rcT 10 (.slice oA M.length oc) M.length (rcs M)) := fun cs => HI9.out.1.below ((Below.refl _ _).alloc (Nat.le_refl _) _)
          have hzw : w1.heap.size ≤ w9.heap.size := HI9.out.2.size
          go_wp2_with (at_builtin; refine wpList_app rfl tyRC (.tmp 38) (.tmp 46) rfl w1.heap.size (n := M.length) (m := 1) (B := w9.heap.size + 1) (xs := rcs M) (news := rcs [ya0]) rfl rfl (by exact HOA.out _) (by exact HSL.out w9) (rcs_ok _ (by intro u hu; simp only [List.mem_singleton] at hu; subst hu; exact HYV.out)) (by omega) (by omega) (by simp; omega) ?_)
          intro v6 w6 ha5
          have HI6 := hide (rc_app HI9.out.1 HI9.out.2 ha5)
          have HMQ6 : Hid (∀ z ∈ M ++ [ya0], RCQ wq z) := fun z hz => by
            rcases List.mem_append.1 hz with h9 | h9
            · exact HMQ.out z h9
            · rw [List.mem_singleton.1 h9]; exact HYQ2.out
          clear ha5 HSL HOA hzw
          clear a0 a1 a2 a3 a4 a5 a6 a7 a8 a9 t0 htl hab2 HI9 HMQ
          go_wp2_with fail
          go_roundw
          case rel => exact ⟨k + 1, M ++ [ya0], _, by omega, by simp, rfl, HPN, by simp; omega, (fun h9 => by have := HPL.out h9; simp; omega), HMQ6, HI6⟩
          case measure => simp [intOf]; omega
  · have HE : Hid (putL x0 false D = M ++ (if pb then [] else [x0])) := by
      rw [Hid, HP.out, List.drop_eq_nil_of_le (by rw [← HN.out]; omega)]
      cases pb <;> rfl
    clear HP
    cases pb with
    | true =>
      have y3 := (HTB.out.below HBR.out HTB.out.lt).frozen 0
      go_wp2_with fail
      go_end0
      have h9 := HT.out.put_ HBR.out (HI.out.1.lower HB1.out.size) HMQ.out hwb
      have hme : putL x0 false D = M := by rw [HE.out]; simp
      rw [hme]
      first | exact ⟨rfl, _, h9⟩ | exact ⟨rfl, ⟨_, h9.1⟩, h9.2⟩
    | false =>
      have k0 := HC1.out.below HI.out.2 hc1
      have c0 : wr.cell? ⟨cb, 0, none⟩ = some (.slice xA xn xc) := k0.cell 0
      have c1 : wr.cell? ⟨cb, 1, none⟩ = some (.int .i64 xf) := k0.cell 1
      have c2 : wr.cell? ⟨cb, 2, none⟩ = some (.int .i64 xt) := k0.cell 2
      have c3 : wr.cell? ⟨cb, 3, none⟩ = some (.slice xE xm xq) := k0.cell 3
      have c4 : wr.cell? ⟨cb, 4, none⟩ = some (.int .i64 xd.s) := k0.cell 4
      have c5 : wr.cell? ⟨cb, 5, none⟩ = some (.int .i64 xd.n) := k0.cell 5
      have c6 : wr.cell? ⟨cb, 6, none⟩ = some (.int .i64 xd.g) := k0.cell 6
      have c7 : wr.cell? ⟨cb, 7, none⟩ = some (.int .i64 xd.h) := k0.cell 7
      have c8 : wr.cell? ⟨cb, 8, none⟩ = some (.bool xd.p) := k0.cell 8
      have c9 : wr.cell? ⟨cb, 9, none⟩ = some (.bool xd.c) := k0.cell 9
      have hcl := k0.lt
      clear k0
      have HSL : Hid (∀ W : World, Sl (W.alloc (.cells #[.slice xA xn xc, .int .i64 xf, .int .i64 xt, .slice xE xm xq, .int .i64 xd.s, .int .i64 xd.n, .int .i64 xd.g, .int .i64 xd.h, .bool xd.p, .bool xd.c] rcT)) (W.heap.size + 1) (.slice (some ⟨W.heap.size, 0, none⟩) 1 1) 10 1 (rcs [x0])) := fun W => by
        have h9 := (Sl.of_own (Own.new (n := 1) (sz := 10) (e := rcT) (base := 0) W #[.slice xA xn xc, .int .i64 xf, .int .i64 xt, .slice xE xm xq, .int .i64 xd.s, .int .i64 xd.n, .int .i64 xd.g, .int .i64 xd.h, .bool xd.p, .bool xd.c] (by omega) (by omega) rfl)).mono (show _ ≤ W.heap.size + 1 by simp)
        have h8 : rcs [x0] = #[.slice xA xn xc, .int .i64 xf, .int .i64 xt, .slice xE xm xq, .int .i64 xd.s, .int .i64 xd.n, .int .i64 xd.g, .int .i64 xd.h, .bool xd.p, .bool xd.c].toList := by rw [rcs, List.flatMap_singleton, HXC.out]
        rw [h8]
        exact h9
      have HOA : Hid (∀ cs, Go.Proofs.Ytkobaidamdffmaa.Own (wr.alloc (.cells cs rcT)) w1.heap.size rcT 10 (.slice oA M.length oc) M.length (rcs M)) := fun cs => HI.out.1.below ((Below.refl _ _).alloc (Nat.le_refl _) _)
      have hzw : w1.heap.size ≤ wr.heap.size := HI.out.2.size
      go_wp2_with (at_builtin; refine wpList_app rfl tyRC (.tmp 50) (.tmp 52) rfl w1.heap.size (n := M.length) (m := 1) (B := wr.heap.size + 1) (xs := rcs M) (news := rcs [x0]) rfl rfl (by exact HOA.out _) (by exact HSL.out wr) (rcs_ok _ (by intro u hu; simp only [List.mem_singleton] at hu; subst hu; exact HX0.out)) (by omega) (by omega) (by simp; omega) ?_)
      intro v5 w5 ha5
      have HI5 := hide (rc_app HI.out.1 HI.out.2 ha5)
      have HMQ5 : Hid (∀ z ∈ M ++ [x0], RCQ wq z) := fun z hz => by
        rcases List.mem_append.1 hz with h9 | h9
        · exact HMQ.out z h9
        · rw [List.mem_singleton.1 h9]; exact HXQ.out
      clear ha5 HSL HOA hzw
      clear c0 c1 c2 c3 c4 c5 c6 c7 c8 c9 hcl HMQ t0 htl
      obtain ⟨zA, zc, hz5, _⟩ := HI5.out.1.sl.form
      subst hz5
      have HB5 : Hid (Below w.heap.size w w5) := HB1.out.trans (HI5.out.2.mono HB1.out.size)
      have hTB := HTB.out.below HB5.out HTB.out.lt
      have t0 : w5.cell? ⟨xb, 0, none⟩ = some (.slice lA n lc) := hTB.cell 0
      have y3 := hTB.frozen 0
      have htl := hTB.lt
      clear hTB
      go_wp2_with fail
      go_end0
      have h9 := HT.out.put_ HB5.out (HI5.out.1.lower HB1.out.size) HMQ5.out hwb
      have hme : putL x0 false D = M ++ [x0] := by rw [HE.out]; simp
      rw [show (M ++ [x0]).length = M.length + 1 by simp] at h9
      rw [hme]
      first | exact ⟨rfl, _, h9⟩ | exact ⟨rfl, ⟨_, h9.1⟩, h9.2⟩

set_option maxRecDepth 100000 in
set_option maxHeartbeats 8000000 in
theorem rdrop_any (wq w : World) (base xb : Nat) (v u : Value) (D E : List RC) (b : Bool) (x : RC) (h : RT wq w base xb v D u E b) (hx : RCQ wq x) (hD : D.length ≤ 100000) (hwb : wq.heap.size ≤ xb) :
    Calls Try.prog 43 #[.pointer (some ⟨xb, 0, none⟩), .agg x.cells.toArray] w fun e w' => e = .returned (.bool (decide ((dropL x D).length < D.length))) ∧ ∃ o, RT wq w' base xb o (dropL x D) u E b ∧ Fr (fun j => j = xb) w w' := by
  have HT := hide h
  have HX := hide hx
  have hbl := h.blk.lt
  have hzq := h.bl.size
  obtain ⟨lA, lc, hlv, hlc⟩ := h.own.sl.form
  subst hlv
  obtain ⟨n, hn⟩ : ∃ n, n = D.length := ⟨_, rfl⟩
  have HN := hide hn
  have HLO : Hid (Own w base rcT 10 (.slice lA n lc) n (rcs D)) := by have h9 := h.own; rw [← hn] at h9; exact h9
  have HTB : Hid (Blk w xb rtT #[.slice lA n lc, u, .bool b]) := by have h9 := h.blk; rw [← hn] at h9; exact h9
  obtain ⟨x0, hx0⟩ : ∃ x0, x0 = x := ⟨_, rfl⟩
  have HX0 : Hid (x0.k.oneCell' = true ∧ x0.a.oneCell' = true) := by
    obtain ⟨A1, c1, h1, _⟩ := hx.ks.form
    obtain ⟨A2, c2, h2, _⟩ := hx.ac.form
    rw [hx0, h1, h2]
    exact ⟨rfl, rfl⟩
  have HXV : Hid (x0 = x) := hx0
  have HXQ : Hid (RCQ wq x0) := by rw [hx0]; exact hx
  rw [← hn] at hlc hD
  clear h hn hx hx0
  obtain ⟨xk, kx, xf, xt, xa, xd⟩ := x
  obtain ⟨xA, xc, hxk, hxkc⟩ := HX.out.ks.form
  obtain ⟨xE, xq, hxe, hxec⟩ := HX.out.ac.form
  simp only at hxk hxkc hxe hxec
  obtain ⟨xn, hxn⟩ : ∃ n, n = kx.length := ⟨_, rfl⟩
  obtain ⟨xm, hxm⟩ : ∃ n, n = xd.b.length := ⟨_, rfl⟩
  rw [← hxn] at hxk hxkc
  rw [← hxm] at hxe hxec
  subst hxk hxe
  have HXS : Hid (Sl wq wq.heap.size (.slice xA xn xc) 1 xn (bys kx) ∧ kx.length = xn ∧ Bytes8 kx) := ⟨by have h9 := HX.out.ks; rw [← hxn] at h9; exact h9, hxn.symm, HX.out.k8⟩
  have HXX : Hid (x0.f = xf ∧ x0.t = xt ∧ x0.kb = kx) := by rw [HXV.out]; exact ⟨rfl, rfl, rfl⟩
  have HXC : Hid (x0.cells = [.slice xA xn xc, .int .i64 xf, .int .i64 xt, .slice xE xm xq, .int .i64 xd.s, .int .i64 xd.n, .int .i64 xd.g, .int .i64 xd.h, .bool xd.p, .bool xd.c]) := by rw [HXV.out]; rfl
  have hxe : (⟨.slice xA xn xc, kx, xf, xt, .slice xE xm xq, xd⟩ : RC) = x0 := HXV.out.symm
  unfold RC.cells
  simp only
  rw [hxe]
  clear HX hxn hxm HXV hxe
  have HB1 : Hid (Below w.heap.size w (w.alloc (.cells #[.slice xA xn xc, .int .i64 xf, .int .i64 xt, .slice xE xm xq, .int .i64 xd.s, .int .i64 xd.n, .int .i64 xd.g, .int .i64 xd.h, .bool xd.p, .bool xd.c] rcT))) := (Below.refl w.heap.size w).alloc (Nat.le_refl _) _
  have HC1 : Hid (Blk (w.alloc (.cells #[.slice xA xn xc, .int .i64 xf, .int .i64 xt, .slice xE xm xq, .int .i64 xd.s, .int .i64 xd.n, .int .i64 xd.g, .int .i64 xd.h, .bool xd.p, .bool xd.c] rcT)) w.heap.size rcT #[.slice xA xn xc, .int .i64 xf, .int .i64 xt, .slice xE xm xq, .int .i64 xd.s, .int .i64 xd.n, .int .i64 xd.g, .int .i64 xd.h, .bool xd.p, .bool xd.c]) := Blk.new w _ _
  go_enter Try.func43, Try.ntmps43
  go_upto_region 3 with fail
  change Code.wp _ _ _ _ (w.alloc (.cells #[.slice xA xn xc, .int .i64 xf, .int .i64 xt, .slice xE xm xq, .int .i64 xd.s, .int .i64 xd.n, .int .i64 xd.g, .int .i64 xd.h, .bool xd.p, .bool xd.c] rcT))
  generalize (w.alloc (.cells #[.slice xA xn xc, .int .i64 xf, .int .i64 xt, .slice xE xm xq, .int .i64 xd.s, .int .i64 xd.n, .int .i64 xd.g, .int .i64 xd.h, .bool xd.p, .bool xd.c] rcT)) = w1 at *
  obtain ⟨cb, hcb⟩ : ∃ cb, cb = w.heap.size := ⟨_, rfl⟩
  rw [← hcb] at HC1 ⊢
  have hcw : cb = w.heap.size := hcb
  clear hcb
  have hc1 := HC1.out.lt
  have HCW := hide hcw
  have hz1 := HB1.out.size
  clear hcw
  go_loopw [5, 6] (fun o i wr => ∃ (k : Nat) (M : List RC), k ≤ n ∧ i = .int .i64 k ∧ Hid (M = dropL x0 (D.take k)) ∧ M.length ≤ k ∧ Hid (∀ z ∈ M, RCQ wq z) ∧ Hid (Own wr w1.heap.size rcT 10 o M.length (rcs M) ∧ Below w1.heap.size w1 wr)) (fun _ i _ => n - (intOf i).toNat)
  case atStart => exact ⟨0, [], Nat.zero_le _, rfl, by simp [Hid, dropL], Nat.zero_le _, (fun z hz => by cases hz), Own.nil _ _ _ _, Below.refl _ _⟩
  case round =>
  obtain ⟨k, M, hk, rfl, HP, hml, HMQ, HI⟩ := hrel
  obtain ⟨oA, oc, rfl, hoc⟩ := HI.out.1.sl.form
  have hzr := HI.out.2.size
  have HBR : Hid (Below w.heap.size w wr) := HB1.out.trans (HI.out.2.mono HB1.out.size)
  have hTB := HTB.out.below HBR.out HTB.out.lt
  have t0 : wr.cell? ⟨xb, 0, none⟩ = some (.slice lA n lc) := hTB.cell 0
  have htl := hTB.lt
  clear hTB
  have hcl : cb < wr.heap.size := by omega
  by_cases hlt : k < n
  · have hkD : k < D.length := by rw [← HN.out]; exact hlt
    have hki : (k : Int) < (n : Int) := by omega
    obtain ⟨y0, hy0⟩ : ∃ y, y = D[k] := ⟨_, rfl⟩
    have HYQ : Hid (RCQ wq y0) := HT.out.q _ (by rw [hy0]; exact List.getElem_mem hkD)
    obtain ⟨ad, hlA, hab, -, -, -, -, -, -, -, -, -, -⟩ := rc_at HLO.out.sl hlt HN.out.symm
    subst hlA
    have HEL : Hid (∀ X : World, Below w.heap.size w X → X.cell? (ad.add (k * 10)) = some y0.k ∧ X.cell? ⟨(ad.add (k * 10)).block, (ad.add (k * 10)).off + 1, none⟩ = some (.int .i64 y0.f) ∧ X.cell? ⟨(ad.add (k * 10)).block, (ad.add (k * 10)).off + 2, none⟩ = some (.int .i64 y0.t) ∧ X.cell? ⟨(ad.add (k * 10)).block, (ad.add (k * 10)).off + 3, none⟩ = some (y0.a) ∧ X.cell? ⟨(ad.add (k * 10)).block, (ad.add (k * 10)).off + 4, none⟩ = some (.int .i64 y0.d.s) ∧ X.cell? ⟨(ad.add (k * 10)).block, (ad.add (k * 10)).off + 5, none⟩ = some (.int .i64 y0.d.n) ∧ X.cell? ⟨(ad.add (k * 10)).block, (ad.add (k * 10)).off + 6, none⟩ = some (.int .i64 y0.d.g) ∧ X.cell? ⟨(ad.add (k * 10)).block, (ad.add (k * 10)).off + 7, none⟩ = some (.int .i64 y0.d.h) ∧ X.cell? ⟨(ad.add (k * 10)).block, (ad.add (k * 10)).off + 8, none⟩ = some (.bool y0.d.p) ∧ X.cell? ⟨(ad.add (k * 10)).block, (ad.add (k * 10)).off + 9, none⟩ = some (.bool y0.d.c)) := fun X hX => by
      obtain ⟨ad', h1, _, h3⟩ := rc_at (HLO.out.below hX).sl hlt HN.out.symm
      injection h1 with h1
      subst h1
      rw [hy0]
      exact h3
    have HYP : Hid (D.drop k = y0 :: D.drop (k + 1) ∧ D.take (k + 1) = D.take k ++ [y0]) := by rw [hy0]; exact ⟨List.drop_eq_getElem_cons hkD, List.take_succ_eq_append_getElem hkD⟩
    clear hy0
    obtain ⟨ya0, hya0⟩ : ∃ y, y = y0 := ⟨_, rfl⟩
    have HY0 : Hid (ya0 = y0) := hya0
    have HYQ2 : Hid (RCQ wq ya0) := by rw [hya0]; exact HYQ.out
    have HYP2 : Hid (D.drop k = ya0 :: D.drop (k + 1) ∧ D.take (k + 1) = D.take k ++ [ya0]) := by rw [hya0]; exact HYP.out
    clear hya0 HYP
    have HYV : Hid (ya0.k.oneCell' = true ∧ ya0.a.oneCell' = true) := by
      obtain ⟨A1, c1, h1, _⟩ := HYQ2.out.ks.form
      obtain ⟨A2, c2, h2, _⟩ := HYQ2.out.ac.form
      rw [h1, h2]
      exact ⟨rfl, rfl⟩
    obtain ⟨yk, ky, yf, yt, ya, yd⟩ := y0
    obtain ⟨yA, yc, hyk, hykc⟩ := HYQ.out.ks.form
    obtain ⟨yE, yq, hye, hyec⟩ := HYQ.out.ac.form
    simp only at hyk hykc hye hyec
    obtain ⟨yn, hyn⟩ : ∃ n, n = ky.length := ⟨_, rfl⟩
    obtain ⟨ym, hym⟩ : ∃ n, n = yd.b.length := ⟨_, rfl⟩
    rw [← hyn] at hyk hykc
    rw [← hym] at hye hyec
    subst hyk hye
    have HYS : Hid (Sl wq wq.heap.size (.slice yA yn yc) 1 yn (bys ky) ∧ ky.length = yn ∧ Bytes8 ky) := ⟨by have h9 := HYQ.out.ks; rw [← hyn] at h9; exact h9, hyn.symm, HYQ.out.k8⟩
    have HYC : Hid (ya0.cells = [.slice yA yn yc, .int .i64 yf, .int .i64 yt, .slice yE ym yq, .int .i64 yd.s, .int .i64 yd.n, .int .i64 yd.g, .int .i64 yd.h, .bool yd.p, .bool yd.c]) := by rw [HY0.out, hyn, hym]; rfl
    have HYX : Hid (ya0.f = yf ∧ ya0.t = yt ∧ ya0.kb = ky) := by rw [HY0.out]; exact ⟨rfl, rfl, rfl⟩
    simp only at HEL
    have HEL2 : Hid (∀ X : World, Below w.heap.size w X → X.cell? (ad.add (k * 10)) = some (.slice yA yn yc) ∧ X.cell? ⟨(ad.add (k * 10)).block, (ad.add (k * 10)).off + 1, none⟩ = some (.int .i64 yf) ∧ X.cell? ⟨(ad.add (k * 10)).block, (ad.add (k * 10)).off + 2, none⟩ = some (.int .i64 yt) ∧ X.cell? ⟨(ad.add (k * 10)).block, (ad.add (k * 10)).off + 3, none⟩ = some (.slice yE ym yq) ∧ X.cell? ⟨(ad.add (k * 10)).block, (ad.add (k * 10)).off + 4, none⟩ = some (.int .i64 yd.s) ∧ X.cell? ⟨(ad.add (k * 10)).block, (ad.add (k * 10)).off + 5, none⟩ = some (.int .i64 yd.n) ∧ X.cell? ⟨(ad.add (k * 10)).block, (ad.add (k * 10)).off + 6, none⟩ = some (.int .i64 yd.g) ∧ X.cell? ⟨(ad.add (k * 10)).block, (ad.add (k * 10)).off + 7, none⟩ = some (.int .i64 yd.h) ∧ X.cell? ⟨(ad.add (k * 10)).block, (ad.add (k * 10)).off + 8, none⟩ = some (.bool yd.p) ∧ X.cell? ⟨(ad.add (k * 10)).block, (ad.add (k * 10)).off + 9, none⟩ = some (.bool yd.c)) := fun X hX => HEL.out X hX
    clear hyn hym HYQ HY0 HEL
    obtain ⟨o, ho⟩ : ∃ o, o = ordR ya0 x0 := ⟨_, rfl⟩
    have HO := hide ho
    have HOD : Hid (∀ p : Aft wr, Calls Try.prog 16 #[.agg #[.slice yA yn yc, .int .i64 yf, .int .i64 yt, .slice yE ym yq, .int .i64 yd.s, .int .i64 yd.n, .int .i64 yd.g, .int .i64 yd.h, .bool yd.p, .bool yd.c], .agg #[.slice xA xn xc, .int .i64 xf, .int .i64 xt, .slice xE xm xq, .int .i64 xd.s, .int .i64 xd.n, .int .i64 xd.g, .int .i64 xd.h, .bool xd.p, .bool xd.c]] p.w' fun e w' => e = .returned (.int .i64 o) ∧ Below p.w'.heap.size p.w' w') := fun p => by
      have hbp : Below wq.heap.size wq p.w' := HT.out.bl.trans ((HBR.out.trans (p.h.mono HBR.out.size)).mono hzq)
      have h9 := rorder_any yA xA yE xE yc xc ym xm yq xq ky kx yf yt xf xt yd.s yd.n yd.g yd.h xd.s xd.n xd.g xd.h yd.p yd.c xd.p xd.c wq.heap.size wq.heap.size p.w' (by rw [HYS.out.2.1]; exact HYS.out.1.below hbp) (by rw [HXS.out.2.1]; exact HXS.out.1.below hbp) HYS.out.2.2 HXS.out.2.2 hbp.size hbp.size
      rw [HXS.out.2.1, HYS.out.2.1] at h9
      have h8 := ho
      unfold ordR at h8
      rw [HXX.out.1, HXX.out.2.1, HXX.out.2.2, HYX.out.1, HYX.out.2.1, HYX.out.2.2] at h8
      rw [← h8] at h9
      exact h9
    clear ho
    have hab2 : (ad.add (k * 10)).block < wr.heap.size := Nat.lt_of_lt_of_le hab HBR.out.size
    go_wp2_with fail
    have k0 := HC1.out.below HI.out.2 hc1
    have c0 := Aft.cell (k0.cell 0) hcl
    have c1 := Aft.cell (k0.cell 1) hcl
    have c2 := Aft.cell (k0.cell 2) hcl
    have c3 := Aft.cell (k0.cell 3) hcl
    have c4 := Aft.cell (k0.cell 4) hcl
    have c5 := Aft.cell (k0.cell 5) hcl
    have c6 := Aft.cell (k0.cell 6) hcl
    have c7 := Aft.cell (k0.cell 7) hcl
    have c8 := Aft.cell (k0.cell 8) hcl
    have c9 := Aft.cell (k0.cell 9) hcl
    obtain ⟨b0, b1, b2, b3, b4, b5, b6, b7, b8, b9⟩ := HEL2.out wr HBR.out
    have a0 := Aft.cell b0 hab2
    have a1 := Aft.cell b1 hab2
    have a2 := Aft.cell b2 hab2
    have a3 := Aft.cell b3 hab2
    have a4 := Aft.cell b4 hab2
    have a5 := Aft.cell b5 hab2
    have a6 := Aft.cell b6 hab2
    have a7 := Aft.cell b7 hab2
    have a8 := Aft.cell b8 hab2
    have a9 := Aft.cell b9 hab2
    have s0 := Aft.cell t0 htl
    simp at c0 c1 c2 c3 c4 c5 c6 c7 c8 c9
    clear b0 b1 b2 b3 b4 b5 b6 b7 b8 b9 k0
    have HPD : Hid (dropL x0 (D.take (k + 1)) = if ordR ya0 x0 = 0 then dropL x0 (D.take k) else dropL x0 (D.take k) ++ [ya0]) := by
      rw [Hid, HYP2.out.2]
      unfold dropL
      rw [List.filter_append]
      by_cases h9 : ordR ya0 x0 = 0 <;> simp [h9]
    rw [← HO.out, ← HP.out] at HPD
    by_cases h0 : o = 0
    · subst h0
      refine wp_region_aft (by kernel_rfl) (by kernel_rfl) ?_
      repeat (go_big_quiet_step (first | (go_at_call 16; with_reducible exact calls_aft (HOD.out _))))
      refine wpQuiet_nil ?_
      intro w9 hb9
      have HI9 : Hid (Go.Proofs.Ytkobaidamdffmaa.Own w9 w1.heap.size rcT 10 (.slice oA M.length oc) M.length (rcs M) ∧ Below w1.heap.size w1 w9) := ⟨HI.out.1.below hb9, HI.out.2.trans (hb9.mono hzr)⟩
      have HPN : Hid (M = dropL x0 (D.take (k + 1))) := by rw [Hid, HPD.out, if_pos rfl]
      clear c0 c1 c2 c3 c4 c5 c6 c7 c8 c9 a0 a1 a2 a3 a4 a5 a6 a7 a8 a9 s0 t0
      clear hb9 HOD HI HBR hab2 htl hcl hzr HPD HP HO
      go_wp2_with fail
      go_roundw
      case rel => exact ⟨k + 1, M, by omega, by simp, HPN, by omega, HMQ, HI9⟩
      case measure => simp [intOf]; omega
    · have e0 : (o == 0) = false := by rw [beq_eq_false_iff_ne]; exact h0
      have e1 : (o != 0) = true := by simp [bne, e0]
      refine wp_region_aft (by kernel_rfl) (by kernel_rfl) ?_
      repeat (go_big_quiet_step (first | (go_at_call 16; with_reducible exact calls_aft (HOD.out _))))
      refine wpQuiet_nil ?_
      intro w9 hb9
      have HI9 : Hid (Go.Proofs.Ytkobaidamdffmaa.Own w9 w1.heap.size rcT 10 (.slice oA M.length oc) M.length (rcs M) ∧ Below w1.heap.size w1 w9) := ⟨HI.out.1.below hb9, HI.out.2.trans (hb9.mono hzr)⟩
      have HPN : Hid (M ++ [ya0] = dropL x0 (D.take (k + 1))) := by rw [Hid, HPD.out, if_neg h0]
      clear c0 c1 c2 c3 c4 c5 c6 c7 c8 c9 a0 a1 a2 a3 a4 a5 a6 a7 a8 a9 s0 t0
      clear hb9 HOD HI HBR hab2 htl hcl hzr HPD HP HO
      have hbw : Below w.heap.size w w9 := HB1.out.trans (HI9.out.2.mono HB1.out.size)
      obtain ⟨a0, a1, a2, a3, a4, a5, a6, a7, a8, a9⟩ := HEL2.out w9 hbw
      have t0 : w9.cell? ⟨xb, 0, none⟩ = some (.slice (some ad) n lc) := (HTB.out.below hbw HTB.out.lt).cell 0
      have htl : xb < w9.heap.size := (HTB.out.below hbw HTB.out.lt).lt
      have hab2 : (ad.add (k * 10)).block < w9.heap.size := Nat.lt_of_lt_of_le hab hbw.size
      clear hbw
      have HSL : Hid (∀ W : World, Sl (W.alloc (.cells #[.slice yA yn yc, .int .i64 yf, .int .i64 yt, .slice yE ym yq, .int .i64 yd.s, .int .i64 yd.n, .int .i64 yd.g, .int .i64 yd.h, .bool yd.p, .bool yd.c] rcT)) (W.heap.size + 1) (.slice (some ⟨W.heap.size, 0, none⟩) 1 1) 10 1 (rcs [ya0])) := fun W => by
        have h9 := (Sl.of_own (Own.new (n := 1) (sz := 10) (e := rcT) (base := 0) W #[.slice yA yn yc, .int .i64 yf, .int .i64 yt, .slice yE ym yq, .int .i64 yd.s, .int .i64 yd.n, .int .i64 yd.g, .int .i64 yd.h, .bool yd.p, .bool yd.c] (by omega) (by omega) rfl)).mono (show _ ≤ W.heap.size + 1 by simp)
        have h8 : rcs [ya0] = #[.slice yA yn yc, .int .i64 yf, .int .i64 yt, .slice yE ym yq, .int .i64 yd.s, .int .i64 yd.n, .int .i64 yd.g, .int .i64 yd.h, .bool yd.p, .bool yd.c].toList := by rw [rcs, List.flatMap_singleton, HYC.out]
        rw [h8]
        exact h9
      have HOA : Hid (∀ cs, Go.Proofs.Ytkobaidamdffmaa.Own (w9.alloc (.cells cs rcT)) w1.heap.size rcT 10 (.slice oA M.length oc) M.length (rcs M)) := fun cs => HI9.out.1.below ((Below.refl _ _).alloc (Nat.le_refl _) _)
      have hzw : w1.heap.size ≤ w9.heap.size := HI9.out.2.size
      go_wp2_with (at_builtin; refine wpList_app rfl tyRC (.tmp 27) (.tmp 35) rfl w1.heap.size (n := M.length) (m := 1) (B := w9.heap.size + 1) (xs := rcs M) (news := rcs [ya0]) rfl rfl (by exact HOA.out _) (by exact HSL.out w9) (rcs_ok _ (by intro u hu; simp only [List.mem_singleton] at hu; subst hu; exact HYV.out)) (by omega) (by omega) (by simp; omega) ?_)
      intro v6 w6 ha5
      have HI6 := hide (rc_app HI9.out.1 HI9.out.2 ha5)
      have HMQ6 : Hid (∀ z ∈ M ++ [ya0], RCQ wq z) := fun z hz => by
        rcases List.mem_append.1 hz with h9 | h9
        · exact HMQ.out z h9
        · rw [List.mem_singleton.1 h9]; exact HYQ2.out
      clear ha5 HSL HOA hzw
      clear a0 a1 a2 a3 a4 a5 a6 a7 a8 a9 t0 htl hab2 HI9 HMQ e0 e1
      go_wp2_with fail
      go_roundw
      case rel => exact ⟨k + 1, M ++ [ya0], by omega, by simp, HPN, by simp; omega, HMQ6, HI6⟩
      case measure => simp [intOf]; omega
  · have HE : Hid (M = dropL x0 D) := by rw [Hid, HP.out, List.take_of_length_le (by rw [← HN.out]; omega)]
    clear HP
    have y3 := (HTB.out.below HBR.out HTB.out.lt).frozen 0
    have hme : Hid ((dropL x0 D).length = M.length) := by rw [Hid, HE.out]
    obtain ⟨mn, hmn⟩ : ∃ m, m = M.length := ⟨_, rfl⟩
    have HS : Hid (RT wq (wr.setCell ⟨xb, 0, none⟩ (.slice oA mn oc)) base xb (.slice oA mn oc) (dropL x0 D) u E b ∧ Fr (fun j => j = xb) w (wr.setCell ⟨xb, 0, none⟩ (.slice oA mn oc))) := by
      have h9 := HT.out.put_ HBR.out (HI.out.1.lower HB1.out.size) HMQ.out hwb
      rw [hmn, ← HE.out]
      exact h9
    have HDN : Hid (decide ((dropL x0 D).length < D.length) = decide ((mn : Int) < (n : Int))) := by
      rw [Hid, hme.out, ← hmn, ← HN.out]
      simp
    rw [← hmn]
    clear hmn hme HE HI
    go_wp2_with fail
    go_ret
    rw [HDN.out]
    first | exact ⟨rfl, _, HS.out⟩ | exact ⟨rfl, ⟨_, HS.out.1⟩, HS.out.2⟩ | exact ⟨by simp, _, HS.out⟩ | exact ⟨by simp, ⟨_, HS.out.1⟩, HS.out.2⟩
end Go.Proofs.Ytkobaidamdffmaa
