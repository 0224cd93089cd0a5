/- The reference's Begin, Back, same, Find (printed by genrb15.py). / The reference's Find (printed by genrf15.py). -/
import Derived.Test.YtkobaidamdffmaaQCellsDecodes19
import Derived.Test.YtkobaidamdffmaaQCellsDecodes02
import Derived.BigQuiet

namespace Go.Proofs.Ytkobaidamdffmaa
open Go.RowKit Go.Sort
set_option linter.unusedVariables false
set_option linter.unusedSimpArgs false

theorem RT.upd {wq w w' : World} {base xb : Nat} {v u v' u' : Value} {D E D' E' : List RC} {b b' : Bool} (h : RT wq w base xb v D u E b) (hf : Fr (fun j => j = xb) w w') (hb : Blk w' xb rtT #[v', u', .bool b'])
    (hv : Own w base rcT 10 v' D'.length (rcs D')) (hu : Own w base rcT 10 u' E'.length (rcs E')) (q : ∀ x ∈ D', RCQ wq x) (qw : ∀ x ∈ E', RCQ wq x) (hwb : wq.heap.size ≤ xb) : RT wq w' base xb v' D' u' E' b' :=
  ⟨hb, hv.fr hf (fun g hg e => hv.ne h.blk (by decide) (by rw [hg, e])), hu.fr hf (fun g hg e => hu.ne h.blk (by decide) (by rw [hg, e])), q, qw, h.bl.trans (hf.below h.bl.size (fun k hk e => by omega)), h.lo⟩
set_option maxHeartbeats 4000000 in
theorem rbegin_any (wq w : World) (base xb : Nat) (v u : Value) (D E : List RC) (b : Bool) (h : RT wq w base xb v D u E b) (hwb : wq.heap.size ≤ xb) :
    Calls Try.prog 44 #[.pointer (some ⟨xb, 0, none⟩)] w fun e w' => (b = true ∧ e = .returned (.bool false) ∧ RT wq w' base xb v D u E b ∧ Fr (fun j => j = xb) w w') ∨ (b = false ∧ e = .returned (.bool true) ∧ RT wq w' base xb v D v D true ∧ Fr (fun j => j = xb) w w') := by
  have HR := hide h
  obtain ⟨lA, lc, rfl, _⟩ := h.own.sl.form
  have hbl := h.blk.lt
  cases b with
  | true =>
    have t2 : w.cell? ⟨xb, 2, none⟩ = some (.bool true) := h.blk.cell 2
    clear h
    have HG : Hid (∀ e w', (e = Ending.returned (.bool false) ∧ w' = w) → (true = true ∧ e = .returned (.bool false) ∧ RT wq w' base xb (.slice lA D.length lc) D u E true ∧ Fr (fun j => j = xb) w w') ∨ (true = false ∧ e = .returned (.bool true) ∧ RT wq w' base xb (.slice lA D.length lc) D (.slice lA D.length lc) D true ∧ Fr (fun j => j = xb) w w')) := fun e w' ⟨h1, h2⟩ => .inl ⟨rfl, h1, by rw [h2]; exact HR.out, by rw [h2]; exact Fr.refl _ _⟩
    refine Calls.mono (?_ : Calls Try.prog 44 #[.pointer (some ⟨xb, 0, none⟩)] w fun e w' => e = .returned (.bool false) ∧ w' = w) HG.out
    clear HG HR
    go_enter Try.func44, Try.ntmps44
    go_wp2_with fail
    go_ret
    exact ⟨rfl, rfl⟩
  | false =>
    obtain ⟨n, hn⟩ : ∃ n, n = D.length := ⟨_, rfl⟩
    have t0 : w.cell? ⟨xb, 0, none⟩ = some (.slice lA D.length lc) := h.blk.cell 0
    have t2 : w.cell? ⟨xb, 2, none⟩ = some (.bool false) := h.blk.cell 2
    obtain ⟨q, hq⟩ : ∃ q, q = u := ⟨_, rfl⟩
    have t1 : w.cell? ⟨xb, 1, none⟩ = some u := h.blk.cell 1
    have y1 := h.blk.frozen 1
    have y2 := h.blk.frozen 2
    have HF : Hid (Fr (fun j => j = xb) w ((w.setCell ⟨xb, 2, none⟩ (.bool true)).setCell ⟨xb, 1, none⟩ (.slice lA n lc))) :=
      Fr.put (S := fun j => j = xb) (Fr.put (S := fun j => j = xb) (Fr.refl _ w) (p := ⟨xb, 2, none⟩) (.inl rfl) (.bool true)) (p := ⟨xb, 1, none⟩) (.inl rfl) _
    have HB : Hid (Blk ((w.setCell ⟨xb, 2, none⟩ (.bool true)).setCell ⟨xb, 1, none⟩ (.slice lA n lc)) xb rtT #[.slice lA D.length lc, .slice lA n lc, .bool true]) := by
      have h9 := (h.blk.put 2 (.bool true)).put 1 (.slice lA n lc)
      simpa [Hid] using h9
    have HR2 : Hid (RT wq ((w.setCell ⟨xb, 2, none⟩ (.bool true)).setCell ⟨xb, 1, none⟩ (.slice lA n lc)) base xb (.slice lA D.length lc) D (.slice lA n lc) D true) := by
      refine HR.out.upd HF.out HB.out HR.out.own ?_ HR.out.q HR.out.q hwb
      rw [hn]
      exact HR.out.own
    rw [← hn] at t0
    have HRN : Hid (n = D.length) := hn
    clear h hn hq HB HR
    have HG : Hid (∀ e w', (e = Ending.returned (.bool true) ∧ w' = (w.setCell ⟨xb, 2, none⟩ (.bool true)).setCell ⟨xb, 1, none⟩ (.slice lA n lc)) → (false = true ∧ e = .returned (.bool false) ∧ RT wq w' base xb (.slice lA D.length lc) D u E false ∧ Fr (fun j => j = xb) w w') ∨ (false = false ∧ e = .returned (.bool true) ∧ RT wq w' base xb (.slice lA D.length lc) D (.slice lA D.length lc) D true ∧ Fr (fun j => j = xb) w w')) := fun e w' ⟨h1, h2⟩ => .inr ⟨rfl, h1, by rw [h2, ← HRN.out]; have h9 := HR2.out; rw [← HRN.out] at h9; exact h9, by rw [h2]; exact HF.out⟩
    refine Calls.mono (?_ : Calls Try.prog 44 #[.pointer (some ⟨xb, 0, none⟩)] w fun e w' => e = .returned (.bool true) ∧ w' = (w.setCell ⟨xb, 2, none⟩ (.bool true)).setCell ⟨xb, 1, none⟩ (.slice lA n lc)) HG.out
    clear HG HR2 HF HRN
    go_enter Try.func44, Try.ntmps44
    go_wp2_with fail
    go_ret
    exact ⟨rfl, rfl⟩
set_option maxHeartbeats 4000000 in
theorem rback_any (wq w : World) (base xb : Nat) (v u : Value) (D E : List RC) (b : Bool) (h : RT wq w base xb v D u E b) (hwb : wq.heap.size ≤ xb) :
    Calls Try.prog 46 #[.pointer (some ⟨xb, 0, none⟩)] w fun e w' => (b = false ∧ e = .returned (.bool false) ∧ RT wq w' base xb v D u E b ∧ Fr (fun j => j = xb) w w') ∨ (b = true ∧ e = .returned (.bool true) ∧ RT wq w' base xb u E u E false ∧ Fr (fun j => j = xb) w w') := by
  have HR := hide h
  obtain ⟨lA, lc, rfl, _⟩ := h.was.sl.form
  have hbl := h.blk.lt
  cases b with
  | false =>
    have t2 : w.cell? ⟨xb, 2, none⟩ = some (.bool false) := h.blk.cell 2
    clear h
    have HG : Hid (∀ e w', (e = Ending.returned (.bool false) ∧ w' = w) → (false = false ∧ e = .returned (.bool false) ∧ RT wq w' base xb v D (.slice lA E.length lc) E false ∧ Fr (fun j => j = xb) w w') ∨ (false = true ∧ e = .returned (.bool true) ∧ RT wq w' base xb (.slice lA E.length lc) E (.slice lA E.length lc) E false ∧ Fr (fun j => j = xb) w w')) := fun e w' ⟨h1, h2⟩ => .inl ⟨rfl, h1, by rw [h2]; exact HR.out, by rw [h2]; exact Fr.refl _ _⟩
    refine Calls.mono (?_ : Calls Try.prog 46 #[.pointer (some ⟨xb, 0, none⟩)] w fun e w' => e = .returned (.bool false) ∧ w' = w) HG.out
    clear HG HR
    go_enter Try.func46, Try.ntmps46
    go_wp2_with fail
    go_ret
    exact ⟨rfl, rfl⟩
  | true =>
    obtain ⟨n, hn⟩ : ∃ n, n = E.length := ⟨_, rfl⟩
    have t0 : w.cell? ⟨xb, 0, none⟩ = some v := h.blk.cell 0
    have t1 : w.cell? ⟨xb, 1, none⟩ = some (.slice lA E.length lc) := h.blk.cell 1
    have t2 : w.cell? ⟨xb, 2, none⟩ = some (.bool true) := h.blk.cell 2
    have y0 := h.blk.frozen 0
    have y2 := h.blk.frozen 2
    have HF : Hid (Fr (fun j => j = xb) w ((w.setCell ⟨xb, 2, none⟩ (.bool false)).setCell ⟨xb, 0, none⟩ (.slice lA n lc))) :=
      Fr.put (S := fun j => j = xb) (Fr.put (S := fun j => j = xb) (Fr.refl _ w) (p := ⟨xb, 2, none⟩) (.inl rfl) (.bool false)) (p := ⟨xb, 0, none⟩) (.inl rfl) _
    have HB : Hid (Blk ((w.setCell ⟨xb, 2, none⟩ (.bool false)).setCell ⟨xb, 0, none⟩ (.slice lA n lc)) xb rtT #[.slice lA n lc, .slice lA E.length lc, .bool false]) := by
      have h9 := (h.blk.put 2 (.bool false)).put 0 (.slice lA n lc)
      simpa [Hid] using h9
    have HR2 : Hid (RT wq ((w.setCell ⟨xb, 2, none⟩ (.bool false)).setCell ⟨xb, 0, none⟩ (.slice lA n lc)) base xb (.slice lA n lc) E (.slice lA E.length lc) E false) := by
      refine HR.out.upd HF.out HB.out ?_ HR.out.was HR.out.qw HR.out.qw hwb
      rw [hn]
      exact HR.out.was
    rw [← hn] at t1
    have HRN : Hid (n = E.length) := hn
    clear h hn HB HR
    have HG : Hid (∀ e w', (e = Ending.returned (.bool true) ∧ w' = (w.setCell ⟨xb, 2, none⟩ (.bool false)).setCell ⟨xb, 0, none⟩ (.slice lA n lc)) → (true = false ∧ e = .returned (.bool false) ∧ RT wq w' base xb v D (.slice lA E.length lc) E true ∧ Fr (fun j => j = xb) w w') ∨ (true = true ∧ e = .returned (.bool true) ∧ RT wq w' base xb (.slice lA E.length lc) E (.slice lA E.length lc) E false ∧ Fr (fun j => j = xb) w w')) := fun e w' ⟨h1, h2⟩ => .inr ⟨rfl, h1, by rw [h2, ← HRN.out]; have h9 := HR2.out; rw [← HRN.out] at h9; exact h9, by rw [h2]; exact HF.out⟩
    refine Calls.mono (?_ : Calls Try.prog 46 #[.pointer (some ⟨xb, 0, none⟩)] w fun e w' => e = .returned (.bool true) ∧ w' = (w.setCell ⟨xb, 2, none⟩ (.bool false)).setCell ⟨xb, 0, none⟩ (.slice lA n lc)) HG.out
    clear HG HR2 HF HRN
    go_enter Try.func46, Try.ntmps46
    go_wp2_with fail
    go_ret
    exact ⟨rfl, rfl⟩
set_option maxHeartbeats 8000000 in
theorem rsame_any (xA xE yA yE : Option Addr) (xn xc xm xq yn yc ym yq : Nat) (xf xt yf yt : Int) (xd yd : CD) (B : Nat) (w : World) (h1 : Sl w B (.slice xE xm xq) 1 xm (bys xd.b)) (h2 : Sl w B (.slice yE ym yq) 1 ym (bys yd.b)) (hl1 : xd.b.length = xm) (hl2 : yd.b.length = ym) (b1 : Bytes8 xd.b) (b2 : Bytes8 yd.b) (hB : B ≤ w.heap.size) :
    Calls Try.prog 67 #[.agg #[.slice xA xn xc, .int .i64 xf, .int .i64 xt, .slice xE xm xq, .int .i64 xd.s, .int .i64 xd.n, .int .i64 xd.g, .int .i64 xd.h, .bool xd.p, .bool xd.c], .agg #[.slice yA yn yc, .int .i64 yf, .int .i64 yt, .slice yE ym yq, .int .i64 yd.s, .int .i64 yd.n, .int .i64 yd.g, .int .i64 yd.h, .bool yd.p, .bool yd.c]] w fun e w' => e = .returned (.bool (decide (xd = yd))) ∧ Below w.heap.size w w' := by
  obtain ⟨r, hr⟩ : ∃ r, r = decide (xd = yd) := ⟨_, rfl⟩
  rw [← hr]
  have HR : Hid (r = decide (xd.b = yd.b ∧ xd.s = yd.s ∧ (xd.n = yd.n ∧ xd.g = yd.g ∧ xd.h = yd.h ∧ xd.p = yd.p ∧ xd.c = yd.c))) := by
    show _ = _
    rw [hr, Bool.eq_iff_iff, decide_eq_true_iff, decide_eq_true_iff]
    exact ⟨fun h => by subst h; exact ⟨rfl, rfl, rfl, rfl, rfl, rfl, rfl⟩, fun h => by cases xd; cases yd; simp_all⟩
  have HB : Hid (Below w.heap.size w ((w.alloc (.cells #[.slice xA xn xc, .int .i64 xf, .int .i64 xt, .slice xE xm xq, .int .i64 xd.s, .int .i64 xd.n, .int .i64 xd.g, .int .i64 xd.h, .bool xd.p, .bool xd.c] rcT)).alloc (.cells #[.slice yA yn yc, .int .i64 yf, .int .i64 yt, .slice yE ym yq, .int .i64 yd.s, .int .i64 yd.n, .int .i64 yd.g, .int .i64 yd.h, .bool yd.p, .bool yd.c] rcT))) := ((Below.refl w.heap.size w).alloc (Nat.le_refl _) _).alloc (by simp) _
  have HP : Hid (Blk ((w.alloc (.cells #[.slice xA xn xc, .int .i64 xf, .int .i64 xt, .slice xE xm xq, .int .i64 xd.s, .int .i64 xd.n, .int .i64 xd.g, .int .i64 xd.h, .bool xd.p, .bool xd.c] rcT)).alloc (.cells #[.slice yA yn yc, .int .i64 yf, .int .i64 yt, .slice yE ym yq, .int .i64 yd.s, .int .i64 yd.n, .int .i64 yd.g, .int .i64 yd.h, .bool yd.p, .bool yd.c] rcT)) w.heap.size rcT #[.slice xA xn xc, .int .i64 xf, .int .i64 xt, .slice xE xm xq, .int .i64 xd.s, .int .i64 xd.n, .int .i64 xd.g, .int .i64 xd.h, .bool xd.p, .bool xd.c]) := (Blk.new w _ _).alloc _
  have HQ : Hid (Blk ((w.alloc (.cells #[.slice xA xn xc, .int .i64 xf, .int .i64 xt, .slice xE xm xq, .int .i64 xd.s, .int .i64 xd.n, .int .i64 xd.g, .int .i64 xd.h, .bool xd.p, .bool xd.c] rcT)).alloc (.cells #[.slice yA yn yc, .int .i64 yf, .int .i64 yt, .slice yE ym yq, .int .i64 yd.s, .int .i64 yd.n, .int .i64 yd.g, .int .i64 yd.h, .bool yd.p, .bool yd.c] rcT)) (w.heap.size + 1) rcT #[.slice yA yn yc, .int .i64 yf, .int .i64 yt, .slice yE ym yq, .int .i64 yd.s, .int .i64 yd.n, .int .i64 yd.g, .int .i64 yd.h, .bool yd.p, .bool yd.c]) := by
    have h9 := Blk.new (w.alloc (.cells #[.slice xA xn xc, .int .i64 xf, .int .i64 xt, .slice xE xm xq, .int .i64 xd.s, .int .i64 xd.n, .int .i64 xd.g, .int .i64 xd.h, .bool xd.p, .bool xd.c] rcT)) rcT #[.slice yA yn yc, .int .i64 yf, .int .i64 yt, .slice yE ym yq, .int .i64 yd.s, .int .i64 yd.n, .int .i64 yd.g, .int .i64 yd.h, .bool yd.p, .bool yd.c]
    simpa [Hid] using h9
  have HC : Hid (∀ W : World, Below w.heap.size w W → Calls Try.prog 22 #[.slice xE xm xq, .slice yE ym yq] W fun e w' => e = .returned (.int .i64 (bytesR xd.b yd.b)) ∧ ∃ j, w' = W.drewN j) := fun W hW =>
    rbytes_any _ _ xd.b yd.b xm ym B B W (h1.below (hW.mono hB)) (h2.below (hW.mono hB)) hl1 hl2 b1 b2
  clear hr h1 h2 hl1 hl2 b1 b2
  go_enter Try.func67, Try.ntmps67
  go_upto_region 1 with fail
  change Code.wp _ _ _ _ ((w.alloc (.cells #[.slice xA xn xc, .int .i64 xf, .int .i64 xt, .slice xE xm xq, .int .i64 xd.s, .int .i64 xd.n, .int .i64 xd.g, .int .i64 xd.h, .bool xd.p, .bool xd.c] rcT)).alloc (.cells #[.slice yA yn yc, .int .i64 yf, .int .i64 yt, .slice yE ym yq, .int .i64 yd.s, .int .i64 yd.n, .int .i64 yd.g, .int .i64 yd.h, .bool yd.p, .bool yd.c] rcT))
  generalize ((w.alloc (.cells #[.slice xA xn xc, .int .i64 xf, .int .i64 xt, .slice xE xm xq, .int .i64 xd.s, .int .i64 xd.n, .int .i64 xd.g, .int .i64 xd.h, .bool xd.p, .bool xd.c] rcT)).alloc (.cells #[.slice yA yn yc, .int .i64 yf, .int .i64 yt, .slice yE ym yq, .int .i64 yd.s, .int .i64 yd.n, .int .i64 yd.g, .int .i64 yd.h, .bool yd.p, .bool yd.c] rcT)) = w1 at *
  obtain ⟨pb, hpb⟩ : ∃ pb, pb = w.heap.size := ⟨_, rfl⟩
  obtain ⟨qb, hqb⟩ : ∃ qb, qb = w.heap.size + 1 := ⟨_, rfl⟩
  rw [← hqb] at HQ ⊢
  rw [← hpb] at HP ⊢
  clear hpb hqb
  have hp := HP.out.lt
  have hq := HQ.out.lt
  have p0 : w1.cell? ⟨pb, 0, none⟩ = some (.slice xA xn xc) := HP.out.cell 0
  have p1 : w1.cell? ⟨pb, 1, none⟩ = some (.int .i64 xf) := HP.out.cell 1
  have p2 : w1.cell? ⟨pb, 2, none⟩ = some (.int .i64 xt) := HP.out.cell 2
  have p3 : w1.cell? ⟨pb, 3, none⟩ = some (.slice xE xm xq) := HP.out.cell 3
  have p4 : w1.cell? ⟨pb, 4, none⟩ = some (.int .i64 xd.s) := HP.out.cell 4
  have p5 : w1.cell? ⟨pb, 5, none⟩ = some (.int .i64 xd.n) := HP.out.cell 5
  have p6 : w1.cell? ⟨pb, 6, none⟩ = some (.int .i64 xd.g) := HP.out.cell 6
  have p7 : w1.cell? ⟨pb, 7, none⟩ = some (.int .i64 xd.h) := HP.out.cell 7
  have p8 : w1.cell? ⟨pb, 8, none⟩ = some (.bool xd.p) := HP.out.cell 8
  have p9 : w1.cell? ⟨pb, 9, none⟩ = some (.bool xd.c) := HP.out.cell 9
  have q0 : w1.cell? ⟨qb, 0, none⟩ = some (.slice yA yn yc) := HQ.out.cell 0
  have q1 : w1.cell? ⟨qb, 1, none⟩ = some (.int .i64 yf) := HQ.out.cell 1
  have q2 : w1.cell? ⟨qb, 2, none⟩ = some (.int .i64 yt) := HQ.out.cell 2
  have q3 : w1.cell? ⟨qb, 3, none⟩ = some (.slice yE ym yq) := HQ.out.cell 3
  have q4 : w1.cell? ⟨qb, 4, none⟩ = some (.int .i64 yd.s) := HQ.out.cell 4
  have q5 : w1.cell? ⟨qb, 5, none⟩ = some (.int .i64 yd.n) := HQ.out.cell 5
  have q6 : w1.cell? ⟨qb, 6, none⟩ = some (.int .i64 yd.g) := HQ.out.cell 6
  have q7 : w1.cell? ⟨qb, 7, none⟩ = some (.int .i64 yd.h) := HQ.out.cell 7
  have q8 : w1.cell? ⟨qb, 8, none⟩ = some (.bool yd.p) := HQ.out.cell 8
  have q9 : w1.cell? ⟨qb, 9, none⟩ = some (.bool yd.c) := HQ.out.cell 9
  go_wp2_with fail
  refine (HC.out w1 HB.out).mono ?_
  rintro e w2 ⟨rfl, j, rfl⟩
  obtain ⟨o, ho⟩ : ∃ o, o = bytesR xd.b yd.b := ⟨_, rfl⟩
  have HO : Hid (o = 0 ↔ xd.b = yd.b) := by rw [Hid, ho]; exact bytesR_zero _ _
  rw [← ho]
  clear ho HC
  by_cases g1 : o = 0
  · subst g1
    have HO2 : Hid (xd.b = yd.b) := HO.out.1 rfl
    by_cases g3 : xd.s = yd.s
    · by_cases g4 : xd.n = yd.n ∧ xd.g = yd.g ∧ xd.h = yd.h ∧ xd.p = yd.p ∧ xd.c = yd.c
      · have HG : Hid (r = true) := by show _ = _; rw [HR.out]; simp only [HO2.out, g3, g4]; simp
        obtain ⟨e1, e2, e3, e4, e5⟩ := g4
        rw [← g3] at q4
        rw [← e1] at q5
        rw [← e2] at q6
        rw [← e3] at q7
        rw [← e4] at q8
        rw [← e5] at q9
        have heq : ∀ W : World, (binOp .eql rsT (.agg #[.int .i64 xd.n, .int .i64 xd.g, .int .i64 xd.h, .bool xd.p, .bool xd.c]) (.agg #[.int .i64 xd.n, .int .i64 xd.g, .int .i64 xd.h, .bool xd.p, .bool xd.c])).run Try.prog W = .ok (.bool true) W := fun W => rst_eq xd.n xd.g xd.h xd.p xd.c W
        clear HR HO HO2 g3 e1 e2 e3 e4 e5
        go_wp2_with fail
        go_ret
        rw [HG.out]
        exact ⟨by first | rfl | simp, HB.out.drewN j⟩
      · have HG : Hid (r = false) := by show _ = _; rw [HR.out]; simp only [g4]; simp
        have hne2 : ∀ W : World, (binOp .eql rsT (.agg #[.int .i64 xd.n, .int .i64 xd.g, .int .i64 xd.h, .bool xd.p, .bool xd.c]) (.agg #[.int .i64 yd.n, .int .i64 yd.g, .int .i64 yd.h, .bool yd.p, .bool yd.c])).run Try.prog W = .ok (.bool false) W := fun W => rst_nq xd.n xd.g xd.h yd.n yd.g yd.h xd.p xd.c yd.p yd.c g4 W
        rw [← g3] at q4
        clear g4 HR HO HO2 g3
        go_wp2_with fail
        go_ret
        rw [HG.out]
        exact ⟨by first | rfl | simp, HB.out.drewN j⟩
    · have HG : Hid (r = false) := by show _ = _; rw [HR.out]; simp only [g3]; simp
      clear HR HO HO2
      go_wp2_with fail
      go_ret
      rw [HG.out]
      exact ⟨by first | rfl | simp [g3], HB.out.drewN j⟩
  · have HG : Hid (r = false) := by show _ = _; rw [HR.out]; exact decide_eq_false (fun h => g1 (HO.out.2 h.1))
    clear HR HO
    go_wp2_with fail
    go_ret
    rw [HG.out]
    exact ⟨by first | rfl | simp [g1], HB.out.drewN j⟩
end Go.Proofs.Ytkobaidamdffmaa

namespace Go.Proofs.Ytkobaidamdffmaa
open Go.RowKit Go.Sort
set_option linter.unusedVariables false
set_option linter.unusedSimpArgs false

/-- the place of a key -/
def findL (x : RC) : List RC → Nat → Int
  | [], _ => -1
  | y :: D, i => if ordR y x = 0 then i else findL x D (i + 1)
def findR (D : List RC) (x : RC) : Option RC := D.find? fun y => decide (ordR y x = 0)
theorem findL_spec (x : RC) : ∀ (D : List RC) (i : Nat), (findL x D i = -1 ∧ findR D x = none) ∨ (∃ k, ∃ h : k < D.length, findL x D i = ((i + k : Nat) : Int) ∧ findR D x = some D[k])
  | [], i => .inl ⟨rfl, rfl⟩
  | y :: D, i => by
    unfold findL findR
    by_cases h : ordR y x = 0
    · rw [if_pos h, List.find?_cons_of_pos (by simp [h])]
      exact .inr ⟨0, by simp, by simp, rfl⟩
    · rw [if_neg h, List.find?_cons_of_neg (by simp [h])]
      rcases findL_spec x D (i + 1) with ⟨h1, h2⟩ | ⟨k, hk, h1, h2⟩
      · exact .inl ⟨h1, h2⟩
      · refine .inr ⟨k + 1, by simp; omega, ?_, ?_⟩
        · rw [h1]; congr 1; omega
        · exact h2
set_option maxRecDepth 100000 in
set_option maxHeartbeats 8000000 in
theorem rfind_any (w : World) (lv : Value) (D : List RC) (x : RC) (hs : Sl w w.heap.size lv 10 D.length (rcs D)) (hq : ∀ y ∈ D, RCQ w y) (hx : RCQ w x) (hD : D.length ≤ 1000000) :
    Calls Try.prog 66 #[lv, .agg x.cells.toArray] w fun e w' => e = .returned (.int .i64 (findL x D 0)) ∧ Below w.heap.size w w' := by
  obtain ⟨lA, lc, rfl, hlc⟩ := hs.form
  have HS := hide hs
  have HQ := hide hq
  have HX := hide hx
  obtain ⟨n, hn⟩ : ∃ n, n = D.length := ⟨_, rfl⟩
  have HN := hide hn
  rw [← hn] at HS hlc hD ⊢
  obtain ⟨x0, hx0⟩ : ∃ x0, x0 = x := ⟨_, rfl⟩
  have HXV : Hid (x0 = x) := hx0
  clear hs hq hx hn hx0
  obtain ⟨xk_, kx, xf, xt, xa_, xd⟩ := x
  obtain ⟨xA, xc, hxk, hxkc⟩ := HX.out.ks.form
  obtain ⟨xE, xq, hxe, hxec⟩ := HX.out.ac.form
  simp only at hxk hxkc hxe hxec
  obtain ⟨xn, hxn⟩ : ∃ n, n = kx.length := ⟨_, rfl⟩
  obtain ⟨xm, hxm⟩ : ∃ n, n = xd.b.length := ⟨_, rfl⟩
  rw [← hxn] at hxk hxkc
  rw [← hxm] at hxe hxec
  subst hxk hxe
  have HxS : Hid (Sl w w.heap.size (.slice xA xn xc) 1 xn (bys kx) ∧ kx.length = xn ∧ Bytes8 kx) := ⟨by have h9 := HX.out.ks; rw [← hxn] at h9; exact h9, hxn.symm, HX.out.k8⟩
  have HXX : Hid (x0.f = xf ∧ x0.t = xt ∧ x0.kb = kx) := by rw [HXV.out]; exact ⟨rfl, rfl, rfl⟩
  have hxe : (⟨.slice xA xn xc, kx, xf, xt, .slice xE xm xq, xd⟩ : RC) = x0 := HXV.out.symm
  unfold RC.cells
  simp only
  rw [hxe]
  clear HX hxn hxm HXV hxe
  have HB1 : Hid (Below w.heap.size w (w.alloc (.cells #[.slice xA xn xc, .int .i64 xf, .int .i64 xt, .slice xE xm xq, .int .i64 xd.s, .int .i64 xd.n, .int .i64 xd.g, .int .i64 xd.h, .bool xd.p, .bool xd.c] rcT))) := (Below.refl w.heap.size w).alloc (Nat.le_refl _) _
  have HC1 : Hid (Blk (w.alloc (.cells #[.slice xA xn xc, .int .i64 xf, .int .i64 xt, .slice xE xm xq, .int .i64 xd.s, .int .i64 xd.n, .int .i64 xd.g, .int .i64 xd.h, .bool xd.p, .bool xd.c] rcT)) w.heap.size rcT #[.slice xA xn xc, .int .i64 xf, .int .i64 xt, .slice xE xm xq, .int .i64 xd.s, .int .i64 xd.n, .int .i64 xd.g, .int .i64 xd.h, .bool xd.p, .bool xd.c]) := Blk.new w _ _
  go_enter Try.func66, Try.ntmps66
  go_upto_region 1 with fail
  change Code.wp _ _ _ _ (w.alloc (.cells #[.slice xA xn xc, .int .i64 xf, .int .i64 xt, .slice xE xm xq, .int .i64 xd.s, .int .i64 xd.n, .int .i64 xd.g, .int .i64 xd.h, .bool xd.p, .bool xd.c] rcT))
  generalize (w.alloc (.cells #[.slice xA xn xc, .int .i64 xf, .int .i64 xt, .slice xE xm xq, .int .i64 xd.s, .int .i64 xd.n, .int .i64 xd.g, .int .i64 xd.h, .bool xd.p, .bool xd.c] rcT)) = w1 at *
  obtain ⟨cb, hcb⟩ : ∃ cb, cb = w.heap.size := ⟨_, rfl⟩
  rw [← hcb] at HC1 ⊢
  clear hcb
  have hc1 := HC1.out.lt
  go_wp2_with fail
  go_loopw [5] (fun i wr => ∃ (k : Nat), k ≤ n ∧ i = .int .i64 k ∧ Hid (findL x0 D 0 = findL x0 (D.drop k) k) ∧ Hid (Below w1.heap.size w1 wr)) (fun i _ => n - (intOf i).toNat)
  case atStart => exact ⟨0, Nat.zero_le _, rfl, rfl, Below.refl _ _⟩
  case round =>
  obtain ⟨k, hk, rfl, HP, HB⟩ := hrel
  have HBR : Hid (Below w.heap.size w wr) := HB1.out.trans (HB.out.mono HB1.out.size)
  by_cases hlt : k < n
  · have hkD : k < D.length := by rw [← HN.out]; exact hlt
    have hki : (k : Int) < (n : Int) := by omega
    obtain ⟨y, hy⟩ : ∃ y, y = D[k] := ⟨_, rfl⟩
    have HYQ : Hid (RCQ w y) := HQ.out _ (by rw [hy]; exact List.getElem_mem hkD)
    obtain ⟨ad, hlA, hab, i0, i1, i2, i3, i4, i5, i6, i7, i8, i9⟩ := rc_at (HS.out.below HBR.out) hlt HN.out.symm
    subst hlA
    rw [← hy] at i0 i1 i2 i3 i4 i5 i6 i7 i8 i9
    have HYP : Hid (findL x0 (D.drop k) k = if ordR y x0 = 0 then (k : Int) else findL x0 (D.drop (k + 1)) (k + 1)) := by rw [Hid, List.drop_eq_getElem_cons hkD, hy]; rfl
    obtain ⟨o, ho⟩ : ∃ o, o = ordR y x0 := ⟨_, rfl⟩
    have HO := hide ho
    rw [← ho] at HYP
    clear hy
    obtain ⟨yk_, ky, yf, yt, ya_, yd⟩ := y
    obtain ⟨yA, yc, hyk, hykc⟩ := HYQ.out.ks.form
    obtain ⟨yE, yq, hye, hyec⟩ := HYQ.out.ac.form
    simp only at hyk hykc hye hyec
    obtain ⟨yn, hyn⟩ : ∃ n, n = ky.length := ⟨_, rfl⟩
    obtain ⟨ym, hym⟩ : ∃ n, n = yd.b.length := ⟨_, rfl⟩
    rw [← hyn] at hyk hykc
    rw [← hym] at hye hyec
    subst hyk hye
    have HyS : Hid (Sl w w.heap.size (.slice yA yn yc) 1 yn (bys ky) ∧ ky.length = yn ∧ Bytes8 ky) := ⟨by have h9 := HYQ.out.ks; rw [← hyn] at h9; exact h9, hyn.symm, HYQ.out.k8⟩
    simp only at i0 i1 i2 i3 i4 i5 i6 i7 i8 i9
    have HOD : Hid (∀ p : Aft wr, Calls Try.prog 16 #[.agg #[.slice yA yn yc, .int .i64 yf, .int .i64 yt, .slice yE ym yq, .int .i64 yd.s, .int .i64 yd.n, .int .i64 yd.g, .int .i64 yd.h, .bool yd.p, .bool yd.c], .agg #[.slice xA xn xc, .int .i64 xf, .int .i64 xt, .slice xE xm xq, .int .i64 xd.s, .int .i64 xd.n, .int .i64 xd.g, .int .i64 xd.h, .bool xd.p, .bool xd.c]] p.w' fun e w' => e = .returned (.int .i64 o) ∧ Below p.w'.heap.size p.w' w') := fun p => by
      have hbp : Below w.heap.size w p.w' := HBR.out.trans (p.h.mono HBR.out.size)
      have h9 := rorder_any yA xA yE xE yc xc ym xm yq xq ky kx yf yt xf xt yd.s yd.n yd.g yd.h xd.s xd.n xd.g xd.h yd.p yd.c xd.p xd.c w.heap.size w.heap.size p.w' (by rw [HyS.out.2.1]; exact HyS.out.1.below hbp) (by rw [HxS.out.2.1]; exact HxS.out.1.below hbp) HyS.out.2.2 HxS.out.2.2 hbp.size hbp.size
      rw [HxS.out.2.1, HyS.out.2.1] at h9
      have h8 := ho
      unfold ordR at h8
      rw [HXX.out.1, HXX.out.2.1, HXX.out.2.2] at h8
      rw [← h8] at h9
      exact h9
    clear ho hyn hym HYQ HO
    have hab2 : (ad.add (k * 10)).block < wr.heap.size := Nat.lt_of_lt_of_le hab HBR.out.size
    have k0 := HC1.out.below HB.out hc1
    have hcl := k0.lt
    have c0 := Aft.cell (k0.cell 0) hcl
    have c1 := Aft.cell (k0.cell 1) hcl
    have c2 := Aft.cell (k0.cell 2) hcl
    have c3 := Aft.cell (k0.cell 3) hcl
    have c4 := Aft.cell (k0.cell 4) hcl
    have c5 := Aft.cell (k0.cell 5) hcl
    have c6 := Aft.cell (k0.cell 6) hcl
    have c7 := Aft.cell (k0.cell 7) hcl
    have c8 := Aft.cell (k0.cell 8) hcl
    have c9 := Aft.cell (k0.cell 9) hcl
    have a0 := Aft.cell i0 hab2
    have a1 := Aft.cell i1 hab2
    have a2 := Aft.cell i2 hab2
    have a3 := Aft.cell i3 hab2
    have a4 := Aft.cell i4 hab2
    have a5 := Aft.cell i5 hab2
    have a6 := Aft.cell i6 hab2
    have a7 := Aft.cell i7 hab2
    have a8 := Aft.cell i8 hab2
    have a9 := Aft.cell i9 hab2
    simp at c0 c1 c2 c3 c4 c5 c6 c7 c8 c9
    clear i0 i1 i2 i3 i4 i5 i6 i7 i8 i9 k0
    by_cases h0 : o = 0
    · subst h0
      have HR : Hid (findL x0 D 0 = (k : Int)) := by rw [Hid, HP.out, HYP.out, if_pos rfl]
      go_wp2_with fail
      refine wp_region_aft (by kernel_rfl) (by kernel_rfl) ?_
      repeat (go_big_quiet_step (first | (go_at_call 16; with_reducible exact calls_aft (HOD.out _))))
      refine wpQuiet_nil ?_
      intro w9 hb9
      have HB9 := hide (HBR.out.trans (hb9.mono HBR.out.size))
      clear c0 c1 c2 c3 c4 c5 c6 c7 c8 c9 a0 a1 a2 a3 a4 a5 a6 a7 a8 a9 hb9 HOD HP HYP
      go_wp2_with fail
      go_ret
      rw [HR.out]
      exact ⟨rfl, HB9.out⟩
    · have e0 : (o == 0) = false := by rw [beq_eq_false_iff_ne]; exact h0
      have HR : Hid (findL x0 D 0 = findL x0 (D.drop (k + 1)) (k + 1)) := by rw [Hid, HP.out, HYP.out, if_neg h0]
      go_wp2_with fail
      refine wp_region_aft (by kernel_rfl) (by kernel_rfl) ?_
      repeat (go_big_quiet_step (first | (go_at_call 16; with_reducible exact calls_aft (HOD.out _))))
      refine wpQuiet_nil ?_
      intro w9 hb9
      have HB9 := hide (HB.out.trans (hb9.mono HB.out.size))
      clear c0 c1 c2 c3 c4 c5 c6 c7 c8 c9 a0 a1 a2 a3 a4 a5 a6 a7 a8 a9 hb9 HOD HP HYP
      go_wp2_with fail
      go_roundw
      case rel => exact ⟨k + 1, by omega, by simp, HR, HB9⟩
      case measure => simp [intOf]; omega
  · have HR : Hid (findL x0 D 0 = -1) := by rw [Hid, HP.out, List.drop_eq_nil_of_le (by rw [← HN.out]; omega)]; rfl
    clear HP
    go_wp2_with fail
    go_ret
    rw [HR.out]
    exact ⟨rfl, HBR.out⟩
end Go.Proofs.Ytkobaidamdffmaa
