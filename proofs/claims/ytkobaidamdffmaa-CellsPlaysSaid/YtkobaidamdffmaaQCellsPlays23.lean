/- The law's step: an op of kind 1 (printed by genstp15.py). -/
import Derived.Test.YtkobaidamdffmaaQCellsPlays16

namespace Go.Proofs.Ytkobaidamdffmaa
open Go.RowKit Go.Sort
set_option linter.unusedVariables false
set_option linter.unusedSimpArgs false

abbrev opT15' : Nat := 31
/-- what step's Put leaves at its copies -/
def Cps (w1 Z : World) (k7 c8 : Nat) (kA zA : Option Addr) (kc zc xn en : Nat) (xf xt : Int) (d : CD) (kb : List Int) : Prop :=
  Below w1.heap.size w1 Z ∧ Blk Z k7 keyT #[.slice kA xn kc, .int .i64 xf, .int .i64 xt] ∧ Blk Z c8 cvT #[.slice zA en zc, .int .i64 d.s, .int .i64 d.n, .int .i64 d.g, .int .i64 d.h, .bool d.p, .bool d.c] ∧ Own Z w1.heap.size bT 1 (.slice kA xn kc) xn (bys kb) ∧ Own Z w1.heap.size bT 1 (.slice zA en zc) en (bys d.b) ∧ (∀ g, (Value.slice kA xn kc).ownBlock = some g → (Value.slice zA en zc).ownBlock ≠ some g)
theorem put7_below' {w w1 : World} {B : Nat} (h : Below B w w1) {nb : Nat} (hn : B ≤ nb) (a b c d e f g : Value) : Below B w (put7 w1 nb a b c d e f g) :=
  ((((((h.setCell (p := ⟨nb, 0, none⟩) hn a).setCell (p := ⟨nb, 1, none⟩) hn b).setCell (p := ⟨nb, 2, none⟩) hn c).setCell (p := ⟨nb, 3, none⟩) hn d).setCell (p := ⟨nb, 4, none⟩) hn e).setCell (p := ⟨nb, 5, none⟩) hn f).setCell (p := ⟨nb, 6, none⟩) hn g
theorem put3_blk {w : World} {nb t : Nat} {x0 x1 x2 : Value} (h : Blk w nb t #[x0, x1, x2]) (a b c : Value) : Blk (((w.setCell ⟨nb, 0, none⟩ a).setCell ⟨nb, 1, none⟩ b).setCell ⟨nb, 2, none⟩ c) nb t #[a, b, c] := by
  have h9 := ((h.put 0 a).put 1 b).put 2 c
  simpa using h9
theorem put7_far {w : World} {nb g t : Nat} {cs : Array Value} (h : Blk w g t cs) (hn : g ≠ nb) (a b c d e f k : Value) : Blk (put7 w nb a b c d e f k) g t cs :=
  ((((((h.far (p := ⟨nb, 0, none⟩) hn a).far (p := ⟨nb, 1, none⟩) hn b).far (p := ⟨nb, 2, none⟩) hn c).far (p := ⟨nb, 3, none⟩) hn d).far (p := ⟨nb, 4, none⟩) hn e).far (p := ⟨nb, 5, none⟩) hn f).far (p := ⟨nb, 6, none⟩) hn k
theorem put3_far {w : World} {nb g t : Nat} {cs : Array Value} (h : Blk w g t cs) (hn : g ≠ nb) (a b c : Value) : Blk (((w.setCell ⟨nb, 0, none⟩ a).setCell ⟨nb, 1, none⟩ b).setCell ⟨nb, 2, none⟩ c) g t cs :=
  ((h.far (p := ⟨nb, 0, none⟩) hn a).far (p := ⟨nb, 1, none⟩) hn b).far (p := ⟨nb, 2, none⟩) hn c
theorem put3_own {w : World} {nb base e sz n : Nat} {v : Value} {xs : List Value} (h : Own w base e sz v n xs) (hn : v.ownBlock ≠ some nb) (a b c : Value) : Own (((w.setCell ⟨nb, 0, none⟩ a).setCell ⟨nb, 1, none⟩ b).setCell ⟨nb, 2, none⟩ c) base e sz v n xs :=
  ((h.put (p := ⟨nb, 0, none⟩) hn a).put (p := ⟨nb, 1, none⟩) hn b).put (p := ⟨nb, 2, none⟩) hn c
theorem put7_own {w : World} {nb base e sz n : Nat} {v : Value} {xs : List Value} (h : Own w base e sz v n xs) (hn : v.ownBlock ≠ some nb) (a b c d f g k : Value) : Own (put7 w nb a b c d f g k) base e sz v n xs :=
  ((((((h.put (p := ⟨nb, 0, none⟩) hn a).put (p := ⟨nb, 1, none⟩) hn b).put (p := ⟨nb, 2, none⟩) hn c).put (p := ⟨nb, 3, none⟩) hn d).put (p := ⟨nb, 4, none⟩) hn f).put (p := ⟨nb, 5, none⟩) hn g).put (p := ⟨nb, 6, none⟩) hn k
/-- both calls are made -/
def CpQ (w1 Z : World) (kA zA : Option Addr) (kc zc xn en : Nat) (d : CD) (kb : List Int) : Prop :=
  Below w1.heap.size w1 Z ∧ Own Z w1.heap.size bT 1 (.slice kA xn kc) xn (bys kb) ∧ Own Z w1.heap.size bT 1 (.slice zA en zc) en (bys d.b) ∧ (∀ g, (Value.slice kA xn kc).ownBlock = some g → (Value.slice zA en zc).ownBlock ≠ some g)
section
variable {w1 wz : World} {kA zA : Option Addr} {kc zc xn en b7 b8 : Nat} {d : CD} {kb : List Int} {x0 x1 x2 y0 y1 y2 y3 y4 y5 y6 : Value}
theorem CpQ.l1 (h : CpQ w1 wz kA zA kc zc xn en d kb) (xf xt : Int) : Cps w1 ((wz.alloc (.cells #[.slice kA xn kc, .int .i64 xf, .int .i64 xt] keyT)).alloc (.cells #[.slice zA en zc, .int .i64 d.s, .int .i64 d.n, .int .i64 d.g, .int .i64 d.h, .bool d.p, .bool d.c] cvT)) wz.heap.size (wz.heap.size + 1) kA zA kc zc xn en xf xt d kb := by
  refine ⟨(h.1.alloc h.1.size _).alloc (by simp; have := h.1.size; omega) _, (Blk.new wz _ _).alloc _, ?_, (h.2.1.alloc _).alloc _, (h.2.2.1.alloc _).alloc _, h.2.2.2⟩
  have h9 := Blk.new (wz.alloc (.cells #[.slice kA xn kc, .int .i64 xf, .int .i64 xt] keyT)) cvT #[.slice zA en zc, .int .i64 d.s, .int .i64 d.n, .int .i64 d.g, .int .i64 d.h, .bool d.p, .bool d.c]
  simpa using h9
theorem CpQ.l2 (h : CpQ w1 wz kA zA kc zc xn en d kb) (xf xt : Int) : Cps w1 ((wz.alloc (.cells #[.slice zA en zc, .int .i64 d.s, .int .i64 d.n, .int .i64 d.g, .int .i64 d.h, .bool d.p, .bool d.c] cvT)).alloc (.cells #[.slice kA xn kc, .int .i64 xf, .int .i64 xt] keyT)) (wz.heap.size + 1) wz.heap.size kA zA kc zc xn en xf xt d kb := by
  refine ⟨(h.1.alloc h.1.size _).alloc (by simp; have := h.1.size; omega) _, ?_, (Blk.new wz _ _).alloc _, (h.2.1.alloc _).alloc _, (h.2.2.1.alloc _).alloc _, h.2.2.2⟩
  have h9 := Blk.new (wz.alloc (.cells #[.slice zA en zc, .int .i64 d.s, .int .i64 d.n, .int .i64 d.g, .int .i64 d.h, .bool d.p, .bool d.c] cvT)) keyT #[.slice kA xn kc, .int .i64 xf, .int .i64 xt]
  simpa using h9
theorem CpQ.l3 (h : CpQ w1 wz kA zA kc zc xn en d kb) (xf xt : Int) (hb : w1.heap.size ≤ b7) (k : Blk wz b7 keyT #[x0, x1, x2]) : Cps w1 ((((wz.setCell ⟨b7, 0, none⟩ (.slice kA xn kc)).setCell ⟨b7, 1, none⟩ (.int .i64 xf)).setCell ⟨b7, 2, none⟩ (.int .i64 xt)).alloc (.cells #[.slice zA en zc, .int .i64 d.s, .int .i64 d.n, .int .i64 d.g, .int .i64 d.h, .bool d.p, .bool d.c] cvT)) b7 wz.heap.size kA zA kc zc xn en xf xt d kb := by
  have hB := ((h.1.setCell (p := ⟨b7, 0, none⟩) hb (.slice kA xn kc)).setCell (p := ⟨b7, 1, none⟩) hb (.int .i64 xf)).setCell (p := ⟨b7, 2, none⟩) hb (.int .i64 xt)
  refine ⟨hB.alloc hB.size _, (put3_blk k _ _ _).alloc _, ?_, (put3_own h.2.1 (h.2.1.ne k (by decide)) _ _ _).alloc _, (put3_own h.2.2.1 (h.2.2.1.ne k (by decide)) _ _ _).alloc _, h.2.2.2⟩
  have h9 := Blk.new (((wz.setCell ⟨b7, 0, none⟩ (.slice kA xn kc)).setCell ⟨b7, 1, none⟩ (.int .i64 xf)).setCell ⟨b7, 2, none⟩ (.int .i64 xt)) cvT #[.slice zA en zc, .int .i64 d.s, .int .i64 d.n, .int .i64 d.g, .int .i64 d.h, .bool d.p, .bool d.c]
  simpa using h9
theorem CpQ.l4 (h : CpQ w1 wz kA zA kc zc xn en d kb) (xf xt : Int) (hb : w1.heap.size ≤ b8) (k : Blk wz b8 cvT #[y0, y1, y2, y3, y4, y5, y6]) : Cps w1 ((((((((wz.setCell ⟨b8, 0, none⟩ (.slice zA en zc)).setCell ⟨b8, 1, none⟩ (.int .i64 d.s)).setCell ⟨b8, 2, none⟩ (.int .i64 d.n)).setCell ⟨b8, 3, none⟩ (.int .i64 d.g)).setCell ⟨b8, 4, none⟩ (.int .i64 d.h)).setCell ⟨b8, 5, none⟩ (.bool d.p)).setCell ⟨b8, 6, none⟩ (.bool d.c)).alloc (.cells #[.slice kA xn kc, .int .i64 xf, .int .i64 xt] keyT)) wz.heap.size b8 kA zA kc zc xn en xf xt d kb := by
  change Cps w1 ((put7 wz b8 _ _ _ _ _ _ _).alloc _) _ _ _ _ _ _ _ _ _ _ _ _
  have hB := put7_below' h.1 hb (.slice zA en zc) (.int .i64 d.s) (.int .i64 d.n) (.int .i64 d.g) (.int .i64 d.h) (.bool d.p) (.bool d.c)
  refine ⟨hB.alloc hB.size _, ?_, (put7_blk k _ _ _ _ _ _ _).alloc _, (put7_own h.2.1 (h.2.1.ne k (by decide)) _ _ _ _ _ _ _).alloc _, (put7_own h.2.2.1 (h.2.2.1.ne k (by decide)) _ _ _ _ _ _ _).alloc _, h.2.2.2⟩
  have h9 := Blk.new (put7 wz b8 (.slice zA en zc) (.int .i64 d.s) (.int .i64 d.n) (.int .i64 d.g) (.int .i64 d.h) (.bool d.p) (.bool d.c)) keyT #[.slice kA xn kc, .int .i64 xf, .int .i64 xt]
  simpa [put7] using h9
theorem CpQ.l5 (h : CpQ w1 wz kA zA kc zc xn en d kb) (xf xt : Int) (hb : w1.heap.size ≤ b7) (hc : w1.heap.size ≤ b8) (k : Blk wz b7 keyT #[x0, x1, x2]) (l : Blk wz b8 cvT #[y0, y1, y2, y3, y4, y5, y6]) :
    Cps w1 ((((((((((wz.setCell ⟨b7, 0, none⟩ (.slice kA xn kc)).setCell ⟨b7, 1, none⟩ (.int .i64 xf)).setCell ⟨b7, 2, none⟩ (.int .i64 xt)).setCell ⟨b8, 0, none⟩ (.slice zA en zc)).setCell ⟨b8, 1, none⟩ (.int .i64 d.s)).setCell ⟨b8, 2, none⟩ (.int .i64 d.n)).setCell ⟨b8, 3, none⟩ (.int .i64 d.g)).setCell ⟨b8, 4, none⟩ (.int .i64 d.h)).setCell ⟨b8, 5, none⟩ (.bool d.p)).setCell ⟨b8, 6, none⟩ (.bool d.c)) b7 b8 kA zA kc zc xn en xf xt d kb := by
  have hB := ((h.1.setCell (p := ⟨b7, 0, none⟩) hb (.slice kA xn kc)).setCell (p := ⟨b7, 1, none⟩) hb (.int .i64 xf)).setCell (p := ⟨b7, 2, none⟩) hb (.int .i64 xt)
  have hne : b8 ≠ b7 := l.apart k (by decide)
  change Cps w1 (put7 _ b8 _ _ _ _ _ _ _) _ _ _ _ _ _ _ _ _ _ _ _
  have l2 := put3_far l hne (.slice kA xn kc) (.int .i64 xf) (.int .i64 xt)
  exact ⟨put7_below' hB hc _ _ _ _ _ _ _, put7_far (put3_blk k _ _ _) (fun e => hne e.symm) _ _ _ _ _ _ _, put7_blk l2 _ _ _ _ _ _ _,
    put7_own (put3_own h.2.1 (h.2.1.ne k (by decide)) _ _ _) (h.2.1.ne l (by decide)) _ _ _ _ _ _ _, put7_own (put3_own h.2.2.1 (h.2.2.1.ne k (by decide)) _ _ _) (h.2.2.1.ne l (by decide)) _ _ _ _ _ _ _, h.2.2.2⟩
end
/-- while the copies are zeroed -/
structure ZI (w1 wc w4 wr : World) (k7 c8 ob : Nat) (kA zA : Option Addr) (kc zc xn en : Nat) (xf xt : Int) (d : CD) (op : Array Value) : Prop where
  fr : Fr (fun j => w1.heap.size ≤ j ∧ j < wc.heap.size) w4 wr
  k7 : Blk wr k7 keyT #[.slice kA xn kc, .int .i64 xf, .int .i64 xt]
  c8 : Blk wr c8 cvT #[.slice zA en zc, .int .i64 d.s, .int .i64 d.n, .int .i64 d.g, .int .i64 d.h, .bool d.p, .bool d.c]
  ky : ∃ xs, Own wr w1.heap.size bT 1 (.slice kA xn kc) xn xs
  ac : ∃ xs, Own wr w1.heap.size bT 1 (.slice zA en zc) en xs
  op : Blk wr ob opT15' op
section
variable {w1 wc w4 wr : World} {k7 c8 ob k : Nat} {kA zA : Option Addr} {kc zc xn en : Nat} {xf xt : Int} {d : CD} {op : Array Value}
theorem ZI.key (h : ZI w1 wc w4 wr k7 c8 ob kA zA kc zc xn en xf xt d op) (hap : ∀ g, (Value.slice kA xn kc).ownBlock = some g → (Value.slice zA en zc).ownBlock ≠ some g) (hl : ∀ g, (Value.slice kA xn kc).ownBlock = some g → g < wc.heap.size) (hk : k < xn) :
    ∃ ad u, kA = some ad ∧ (ad.add k).block < wr.heap.size ∧ wr.cell? (ad.add k) = some u ∧ wr.frozen? (ad.add k) = false ∧ ∀ v, ZI w1 wc w4 (wr.setCell (ad.add k) v) k7 c8 ob kA zA kc zc xn en xf xt d op := by
  obtain ⟨xs, hy⟩ := h.ky
  obtain ⟨ys, hz⟩ := h.ac
  obtain ⟨ad, u, h1, h2, h3, h4, h5, h6, h7⟩ := zero_at hy hk
  refine ⟨ad, u, h1, h2, h5, h6, fun v => ⟨h.fr.put (p := ad.add k) (.inl ⟨h3, hl _ h4⟩) v, h.k7.far (fun e => hy.ne h.k7 (by decide) (by rw [h4, e])) v, h.c8.far (fun e => hy.ne h.c8 (by decide) (by rw [h4, e])) v, ⟨_, h7 v⟩, ⟨ys, hz.put (hap _ h4) v⟩, h.op.far (fun e => hy.ne h.op (by decide) (by rw [h4, e])) v⟩⟩
theorem ZI.acc (h : ZI w1 wc w4 wr k7 c8 ob kA zA kc zc xn en xf xt d op) (hap : ∀ g, (Value.slice kA xn kc).ownBlock = some g → (Value.slice zA en zc).ownBlock ≠ some g) (hl : ∀ g, (Value.slice zA en zc).ownBlock = some g → g < wc.heap.size) (hk : k < en) :
    ∃ ad u, zA = some ad ∧ (ad.add k).block < wr.heap.size ∧ wr.cell? (ad.add k) = some u ∧ wr.frozen? (ad.add k) = false ∧ ∀ v, ZI w1 wc w4 (wr.setCell (ad.add k) v) k7 c8 ob kA zA kc zc xn en xf xt d op := by
  obtain ⟨xs, hy⟩ := h.ky
  obtain ⟨ys, hz⟩ := h.ac
  obtain ⟨ad, u, h1, h2, h3, h4, h5, h6, h7⟩ := zero_at hz hk
  refine ⟨ad, u, h1, h2, h5, h6, fun v => ⟨h.fr.put (p := ad.add k) (.inl ⟨h3, hl _ h4⟩) v, h.k7.far (fun e => hz.ne h.k7 (by decide) (by rw [h4, e])) v, h.c8.far (fun e => hz.ne h.c8 (by decide) (by rw [h4, e])) v, ⟨xs, hy.put (fun e => hap _ e h4) v⟩, ⟨_, h7 v⟩, h.op.far (fun e => hz.ne h.op (by decide) (by rw [h4, e])) v⟩⟩
end
theorem Kt.band {X w w' : World} {a b : Nat} (h : Kt X w) (hf : Fr (fun j => a ≤ j ∧ j < b) w w') (ha : X.heap.size ≤ a) : Kt X w' :=
  ⟨fun g t cs fr ht hb => (hf.block g (by have h9 := h.1 g t cs fr ht hb; exact (Array.getElem?_eq_some_iff.1 h9).1) (fun e => by have := (Array.getElem?_eq_some_iff.1 hb).1; omega)).trans (h.1 g t cs fr ht hb), Nat.le_trans h.2 hf.size⟩
set_option maxRecDepth 100000 in
set_option maxHeartbeats 16000000 in
theorem step_put (w X : World) (base tb cb xb : Nat) (wm fm : Option Nat) (bg : Bool) (L W : List (PK × CV)) (F : List (PK × Int)) (v u : Value) (D E : List RC) (b : Bool) (x : RC) (hT : TabG w X tb cb wm fm bg L W F) (hR : RT w X base xb v D u E b) (hx : RCQ w x) (hD : D.length ≤ 100000) (hwb : w.heap.size ≤ xb) :
    Calls Try.prog 23 #[.pointer (some ⟨tb, 0, none⟩), .pointer (some ⟨xb, 0, none⟩), .agg (.int .i64 1 :: x.cells).toArray] X (StepQ w X base tb cb xb wm fm bg u E b (UpdPut bg x L W F D)) := by
  obtain ⟨xk, kb, xf, xt, xa, d⟩ := x
  obtain ⟨xA, xc, hxk, hxc⟩ := hx.ks.form
  obtain ⟨eA, ec, hxe, hec⟩ := hx.ac.form
  simp only at hxk hxc hxe hec
  obtain ⟨xn, hxn⟩ : ∃ n, n = kb.length := ⟨_, rfl⟩
  obtain ⟨en, hen⟩ : ∃ n, n = d.b.length := ⟨_, rfl⟩
  rw [← hxn] at hxk hxc
  rw [← hen] at hxe hec
  subst hxk hxe
  have HXK : Hid (Sl w w.heap.size (.slice xA xn xc) 1 xn (bys kb) ∧ kb.length = xn ∧ Bytes8 kb ∧ xn ≤ 140737488355328) := ⟨by have h9 := hx.ks; rw [← hxn] at h9; exact h9, hxn.symm, hx.k8, by rw [hxn]; exact hx.kn⟩
  have HXA : Hid (Sl w w.heap.size (.slice eA en ec) 1 en (bys d.b) ∧ d.b.length = en ∧ Bytes8 d.b ∧ en ≤ 140737488355328) := ⟨by have h9 := hx.ac; rw [← hen] at h9; exact h9, hen.symm, hx.a8, by rw [hen]; exact hx.an⟩
  have HT := hide hT
  have HR := hide hR
  have HX := hide hx
  clear hx hxn hen hT hR
  unfold RC.cells
  simp only
  have HOP : Hid (Blk (X.alloc (.cells #[.int .i64 1, .slice xA xn xc, .int .i64 xf, .int .i64 xt, .slice eA en ec, .int .i64 d.s, .int .i64 d.n, .int .i64 d.g, .int .i64 d.h, .bool d.p, .bool d.c] opT15')) X.heap.size opT15' #[.int .i64 1, .slice xA xn xc, .int .i64 xf, .int .i64 xt, .slice eA en ec, .int .i64 d.s, .int .i64 d.n, .int .i64 d.g, .int .i64 d.h, .bool d.p, .bool d.c]) := Blk.new X _ _
  have HB0 : Hid (Below X.heap.size X (X.alloc (.cells #[.int .i64 1, .slice xA xn xc, .int .i64 xf, .int .i64 xt, .slice eA en ec, .int .i64 d.s, .int .i64 d.n, .int .i64 d.g, .int .i64 d.h, .bool d.p, .bool d.c] opT15'))) := (Below.refl X.heap.size X).alloc (Nat.le_refl _) _
  go_enter Try.func23, Try.ntmps23
  go_upto_region 1 with fail
  change Code.wp _ _ _ _ (X.alloc (.cells #[.int .i64 1, .slice xA xn xc, .int .i64 xf, .int .i64 xt, .slice eA en ec, .int .i64 d.s, .int .i64 d.n, .int .i64 d.g, .int .i64 d.h, .bool d.p, .bool d.c] opT15'))
  generalize (X.alloc (.cells #[.int .i64 1, .slice xA xn xc, .int .i64 xf, .int .i64 xt, .slice eA en ec, .int .i64 d.s, .int .i64 d.n, .int .i64 d.g, .int .i64 d.h, .bool d.p, .bool d.c] opT15')) = w1 at *
  obtain ⟨ob, hob⟩ : ∃ ob, ob = X.heap.size := ⟨_, rfl⟩
  rw [← hob] at HOP ⊢
  clear hob
  have hol := HOP.out.lt
  have o0 : w1.cell? ⟨ob, 0, none⟩ = some (.int .i64 1) := HOP.out.cell 0
  go_upto_region 3 with fail
  have HBQ : Hid (Below w.heap.size w w1) := HR.out.bl.trans (HB0.out.mono HR.out.bl.size)
  have HKEY : Hid (∀ Y : World, Below w1.heap.size w1 Y → Calls Try.prog 11 #[.agg #[.slice xA xn xc, .int .i64 xf, .int .i64 xt, .slice eA en ec, .int .i64 d.s, .int .i64 d.n, .int .i64 d.g, .int .i64 d.h, .bool d.p, .bool d.c]] Y fun e w' => ∃ kA kc, e = .returned (.agg #[.slice kA xn kc, .int .i64 xf, .int .i64 xt]) ∧ Own w' Y.heap.size bT 1 (.slice kA xn kc) xn (bys kb) ∧ Below w1.heap.size w1 w' ∧ Below Y.heap.size Y w') := fun Y hY => by
    have hq := HBQ.out.trans (hY.mono HBQ.out.size)
    refine (lkey_any xA xn xc xf xt (.slice eA en ec) d.s d.n d.g d.h d.p d.c kb w.heap.size Y (HXK.out.1.below hq) HXK.out.2.1 HXK.out.2.2.2 hq.size).mono ?_
    rintro e w' ⟨z, rfl, ho, hb⟩
    obtain ⟨zA, zc, rfl, _⟩ := ho.sl.form
    exact ⟨zA, zc, rfl, ho, hY.trans (hb.mono hY.size), hb⟩
  have HCEL : Hid (∀ Y : World, Below w1.heap.size w1 Y → Calls Try.prog 12 #[.agg #[.slice xA xn xc, .int .i64 xf, .int .i64 xt, .slice eA en ec, .int .i64 d.s, .int .i64 d.n, .int .i64 d.g, .int .i64 d.h, .bool d.p, .bool d.c]] Y fun e w' => ∃ zA zc, e = .returned (.agg #[.slice zA en zc, .int .i64 d.s, .int .i64 d.n, .int .i64 d.g, .int .i64 d.h, .bool d.p, .bool d.c]) ∧ Own w' Y.heap.size bT 1 (.slice zA en zc) en (bys d.b) ∧ Below w1.heap.size w1 w' ∧ Below Y.heap.size Y w') := fun Y hY => by
    have hq := HBQ.out.trans (hY.mono HBQ.out.size)
    refine (lcell_any eA en ec xf xt (.slice xA xn xc) d.s d.n d.g d.h d.p d.c d.b w.heap.size Y (HXA.out.1.below hq) HXA.out.2.1 HXA.out.2.2.2 hq.size).mono ?_
    rintro e w' ⟨z, rfl, ho, hb⟩
    obtain ⟨zA, zc, rfl, _⟩ := ho.sl.form
    exact ⟨zA, zc, rfl, ho, hY.trans (hb.mono hY.size), hb⟩
  have HS : Hid (∀ Y : World, Below w1.heap.size w1 Y → (fun X : World => X.cell? ⟨ob, 1, none⟩ = some (.slice xA xn xc) ∧ X.cell? ⟨ob, 2, none⟩ = some (.int .i64 xf) ∧ X.cell? ⟨ob, 3, none⟩ = some (.int .i64 xt) ∧ X.cell? ⟨ob, 4, none⟩ = some (.slice eA en ec) ∧ X.cell? ⟨ob, 5, none⟩ = some (.int .i64 d.s) ∧ X.cell? ⟨ob, 6, none⟩ = some (.int .i64 d.n) ∧ X.cell? ⟨ob, 7, none⟩ = some (.int .i64 d.g) ∧ X.cell? ⟨ob, 8, none⟩ = some (.int .i64 d.h) ∧ X.cell? ⟨ob, 9, none⟩ = some (.bool d.p) ∧ X.cell? ⟨ob, 10, none⟩ = some (.bool d.c)) Y) := fun Y hY => by
    have k := HOP.out.below hY HOP.out.lt
    exact ⟨k.cell 1, k.cell 2, k.cell 3, k.cell 4, k.cell 5, k.cell 6, k.cell 7, k.cell 8, k.cell 9, k.cell 10⟩
  have HD1 : Hid (∀ Y : World, Below w1.heap.size w1 Y → Below w1.heap.size w1 Y.drew) := fun Y hY => hY.drewN 1
  have HA1 : Hid (∀ (Y : World) (o : Obj), Below w1.heap.size w1 Y → Below w1.heap.size w1 (Y.alloc o)) := fun Y o hY => hY.alloc hY.size o
  have HR1 := hide (Below.refl w1.heap.size w1)
  have HSE3 : Hid (∀ (Y : World) (nb : Nat) (a b c : Value), Below w1.heap.size w1 Y → w1.heap.size ≤ nb → Below w1.heap.size w1 (((Y.setCell ⟨nb, 0, none⟩ a).setCell ⟨nb, 1, none⟩ b).setCell ⟨nb, 2, none⟩ c)) := fun Y nb a b c hY hn => ((hY.setCell hn a).setCell hn b).setCell hn c
  have HSE7 : Hid (∀ (Y : World) (nb : Nat) (a b c d e f g : Value), Below w1.heap.size w1 Y → w1.heap.size ≤ nb → Below w1.heap.size w1 (((((((Y.setCell ⟨nb, 0, none⟩ a).setCell ⟨nb, 1, none⟩ b).setCell ⟨nb, 2, none⟩ c).setCell ⟨nb, 3, none⟩ d).setCell ⟨nb, 4, none⟩ e).setCell ⟨nb, 5, none⟩ f).setCell ⟨nb, 6, none⟩ g)) := fun Y nb a b c d e f g hY hn => ((((((hY.setCell hn a).setCell hn b).setCell hn c).setCell hn d).setCell hn e).setCell hn f).setCell hn g
  go_cut [7, 8] from 24 to 29 (fun q7 q8 wx => ∃ k7 c8 kA zA kc zc, q7 = .pointer (some ⟨k7, 0, none⟩) ∧ q8 = .pointer (some ⟨c8, 0, none⟩) ∧ Hid (Cps w1 wx k7 c8 kA zA kc zc xn en xf xt d kb))
  case first =>
    obtain ⟨s0, s1, s2, s3, s4, s5, s6, s7, s8, s9⟩ := HS.out w1 HR1.out
    go_region_held3 (fun X : World => X.cell? ⟨ob, 1, none⟩ = some (.slice xA xn xc) ∧ X.cell? ⟨ob, 2, none⟩ = some (.int .i64 xf) ∧ X.cell? ⟨ob, 3, none⟩ = some (.int .i64 xt) ∧ X.cell? ⟨ob, 4, none⟩ = some (.slice eA en ec) ∧ X.cell? ⟨ob, 5, none⟩ = some (.int .i64 d.s) ∧ X.cell? ⟨ob, 6, none⟩ = some (.int .i64 d.n) ∧ X.cell? ⟨ob, 7, none⟩ = some (.int .i64 d.g) ∧ X.cell? ⟨ob, 8, none⟩ = some (.int .i64 d.h) ∧ X.cell? ⟨ob, 9, none⟩ = some (.bool d.p) ∧ X.cell? ⟨ob, 10, none⟩ = some (.bool d.c)) (first
        | with_reducible exact HS.out _ hcl
        | with_reducible exact HS.out _ hky
        | with_reducible exact HS.out _ (HA1.out _ _ hcl)
        | with_reducible exact HS.out _ (HA1.out _ _ (HA1.out _ _ hcl))
        | with_reducible exact HS.out _ (HA1.out _ _ hky)
        | with_reducible exact HS.out _ (HA1.out _ _ (HA1.out _ _ hky))
        | with_reducible exact HS.out _ (HD1.out _ HR1.out)
        | with_reducible exact HS.out _ (HD1.out _ (HA1.out _ _ HR1.out))
        | with_reducible exact HS.out _ (HD1.out _ (HA1.out _ _ (HA1.out _ _ HR1.out)))
        | with_reducible exact HS.out _ (HSE3.out _ _ _ _ _ hcl (by have := hky.size; have := hcl.size; omega))
        | with_reducible exact HS.out _ (HSE7.out _ _ _ _ _ _ _ _ _ hcl (by have := hky.size; have := hcl.size; omega))
        | with_reducible exact HS.out _ (HA1.out _ _ (HSE3.out _ _ _ _ _ hcl (by have := hky.size; have := hcl.size; omega)))
        | with_reducible exact HS.out _ (HA1.out _ _ (HSE7.out _ _ _ _ _ _ _ _ _ hcl (by have := hky.size; have := hcl.size; omega)))
        | with_reducible exact HS.out _ (HSE7.out _ _ _ _ _ _ _ _ _ (HSE3.out _ _ _ _ _ hcl (by have := hky.size; have := hcl.size; omega)) (by have := hky.size; have := hcl.size; omega))
        | with_reducible exact HS.out _ HR1.out) (first
      | (go_at_call 11; first
          | ((with_reducible refine (HKEY.out w1.drew (HD1.out _ HR1.out)).mono ?_); rintro e wk ⟨kA, kc, rfl, hok, hky, hky2⟩)
          | ((with_reducible refine (HKEY.out (w1.alloc (.cells #[.slice none 0 0, .int .i64 0, .int .i64 0] keyT)).drew (HD1.out _ (HA1.out _ _ HR1.out))).mono ?_); rintro e wk ⟨kA, kc, rfl, hok, hky, hky2⟩; have kz7 : Blk wk w1.heap.size keyT #[.slice none 0 0, .int .i64 0, .int .i64 0] := (by simpa using ((Blk.new w1 keyT _).drew).below hky2 (by simp <;> omega)))
          | ((with_reducible refine (HKEY.out (w1.alloc (.cells #[.slice none 0 0, .int .i64 0, .int .i64 0, .int .i64 0, .int .i64 0, .bool false, .bool false] cvT)).drew (HD1.out _ (HA1.out _ _ HR1.out))).mono ?_); rintro e wk ⟨kA, kc, rfl, hok, hky, hky2⟩; have kz8 : Blk wk w1.heap.size cvT #[.slice none 0 0, .int .i64 0, .int .i64 0, .int .i64 0, .int .i64 0, .bool false, .bool false] := (by simpa using ((Blk.new w1 cvT _).drew).below hky2 (by simp <;> omega)))
          | ((with_reducible refine (HKEY.out ((w1.alloc (.cells #[.slice none 0 0, .int .i64 0, .int .i64 0] keyT)).alloc (.cells #[.slice none 0 0, .int .i64 0, .int .i64 0, .int .i64 0, .int .i64 0, .bool false, .bool false] cvT)).drew (HD1.out _ (HA1.out _ _ (HA1.out _ _ HR1.out)))).mono ?_); rintro e wk ⟨kA, kc, rfl, hok, hky, hky2⟩; have kz7 : Blk wk w1.heap.size keyT #[.slice none 0 0, .int .i64 0, .int .i64 0] := (by simpa using (((Blk.new w1 keyT _).alloc _).drew).below hky2 (by simp <;> omega)); have kz8 : Blk wk (w1.heap.size + 1) cvT #[.slice none 0 0, .int .i64 0, .int .i64 0, .int .i64 0, .int .i64 0, .bool false, .bool false] := (by simpa using ((Blk.new (w1.alloc (.cells #[.slice none 0 0, .int .i64 0, .int .i64 0] keyT)) cvT _).drew).below hky2 (by simp <;> omega)))
          | ((with_reducible refine (HKEY.out ((w1.alloc (.cells #[.slice none 0 0, .int .i64 0, .int .i64 0, .int .i64 0, .int .i64 0, .bool false, .bool false] cvT)).alloc (.cells #[.slice none 0 0, .int .i64 0, .int .i64 0] keyT)).drew (HD1.out _ (HA1.out _ _ (HA1.out _ _ HR1.out)))).mono ?_); rintro e wk ⟨kA, kc, rfl, hok, hky, hky2⟩; have kz8 : Blk wk w1.heap.size cvT #[.slice none 0 0, .int .i64 0, .int .i64 0, .int .i64 0, .int .i64 0, .bool false, .bool false] := (by simpa using (((Blk.new w1 cvT _).alloc _).drew).below hky2 (by simp <;> omega)); have kz7 : Blk wk (w1.heap.size + 1) keyT #[.slice none 0 0, .int .i64 0, .int .i64 0] := (by simpa using ((Blk.new (w1.alloc (.cells #[.slice none 0 0, .int .i64 0, .int .i64 0, .int .i64 0, .int .i64 0, .bool false, .bool false] cvT)) keyT _).drew).below hky2 (by simp <;> omega))))
      | (go_at_call 12; first
          | ((with_reducible refine (HCEL.out wk (hky)).mono ?_); rintro e wz ⟨zA, zc, rfl, hoz, hcl, hcl2⟩; (try have kz7 := (kz7).below hcl2 (kz7).lt); (try have kz8 := (kz8).below hcl2 (kz8).lt); (try (have l7 := kz7.lt; have f70 := kz7.frozen 0; have f71 := kz7.frozen 1; have f72 := kz7.frozen 2; have d70 := kz7.cell 0; have d71 := kz7.cell 1; have d72 := kz7.cell 2; simp at d70 d71 d72)); (try (have l8 := kz8.lt; have f80 := kz8.frozen 0; have f81 := kz8.frozen 1; have f82 := kz8.frozen 2; have f83 := kz8.frozen 3; have f84 := kz8.frozen 4; have f85 := kz8.frozen 5; have f86 := kz8.frozen 6; have d80 := kz8.cell 0; have d81 := kz8.cell 1; have d82 := kz8.cell 2; have d83 := kz8.cell 3; have d84 := kz8.cell 4; have d85 := kz8.cell 5; have d86 := kz8.cell 6; simp at d80 d81 d82 d83 d84 d85 d86)); (try (have e78 := kz7.apart kz8 (by decide); have e87 := kz8.apart kz7 (by decide))); have hq : CpQ w1 wz kA zA kc zc xn en d kb := ⟨hcl, ((hok).below hcl2).lower (by first | omega | (simp; done) | (simp; omega)), hoz.lower (by have := hky.size; first | omega | (simp; done) | (simp; omega)), fun g hg e => by have h1 := (hok.lt g hg).2; have h2 := (hoz.lt g e).1; (try simp at h2); omega⟩; (try (have m7 : w1.heap.size ≤ w1.heap.size := (by have := hky.size; omega))); (try (have m8 : w1.heap.size ≤ w1.heap.size := (by have := hky.size; omega))))
          | ((with_reducible refine (HCEL.out (wk.alloc (.cells #[.slice none 0 0, .int .i64 0, .int .i64 0] keyT)) (HA1.out _ _ hky)).mono ?_); rintro e wz ⟨zA, zc, rfl, hoz, hcl, hcl2⟩; have kz7 : Blk wz wk.heap.size keyT #[.slice none 0 0, .int .i64 0, .int .i64 0] := (by simpa using (Blk.new wk keyT _).below hcl2 (by simp <;> omega)); (try have kz8 := ((kz8).alloc _).below hcl2 ((kz8).alloc _).lt); (try (have l7 := kz7.lt; have f70 := kz7.frozen 0; have f71 := kz7.frozen 1; have f72 := kz7.frozen 2; have d70 := kz7.cell 0; have d71 := kz7.cell 1; have d72 := kz7.cell 2; simp at d70 d71 d72)); (try (have l8 := kz8.lt; have f80 := kz8.frozen 0; have f81 := kz8.frozen 1; have f82 := kz8.frozen 2; have f83 := kz8.frozen 3; have f84 := kz8.frozen 4; have f85 := kz8.frozen 5; have f86 := kz8.frozen 6; have d80 := kz8.cell 0; have d81 := kz8.cell 1; have d82 := kz8.cell 2; have d83 := kz8.cell 3; have d84 := kz8.cell 4; have d85 := kz8.cell 5; have d86 := kz8.cell 6; simp at d80 d81 d82 d83 d84 d85 d86)); (try (have e78 := kz7.apart kz8 (by decide); have e87 := kz8.apart kz7 (by decide))); have hq : CpQ w1 wz kA zA kc zc xn en d kb := ⟨hcl, (((hok).alloc _).below hcl2).lower (by first | omega | (simp; done) | (simp; omega)), hoz.lower (by have := hky.size; first | omega | (simp; done) | (simp; omega)), fun g hg e => by have h1 := (hok.lt g hg).2; have h2 := (hoz.lt g e).1; (try simp at h2); omega⟩; (try (have m7 : w1.heap.size ≤ wk.heap.size := (by have := hky.size; omega))); (try (have m8 : w1.heap.size ≤ w1.heap.size := (by have := hky.size; omega))))
          | ((with_reducible refine (HCEL.out (wk.alloc (.cells #[.slice none 0 0, .int .i64 0, .int .i64 0, .int .i64 0, .int .i64 0, .bool false, .bool false] cvT)) (HA1.out _ _ hky)).mono ?_); rintro e wz ⟨zA, zc, rfl, hoz, hcl, hcl2⟩; (try have kz7 := ((kz7).alloc _).below hcl2 ((kz7).alloc _).lt); have kz8 : Blk wz wk.heap.size cvT #[.slice none 0 0, .int .i64 0, .int .i64 0, .int .i64 0, .int .i64 0, .bool false, .bool false] := (by simpa using (Blk.new wk cvT _).below hcl2 (by simp <;> omega)); (try (have l7 := kz7.lt; have f70 := kz7.frozen 0; have f71 := kz7.frozen 1; have f72 := kz7.frozen 2; have d70 := kz7.cell 0; have d71 := kz7.cell 1; have d72 := kz7.cell 2; simp at d70 d71 d72)); (try (have l8 := kz8.lt; have f80 := kz8.frozen 0; have f81 := kz8.frozen 1; have f82 := kz8.frozen 2; have f83 := kz8.frozen 3; have f84 := kz8.frozen 4; have f85 := kz8.frozen 5; have f86 := kz8.frozen 6; have d80 := kz8.cell 0; have d81 := kz8.cell 1; have d82 := kz8.cell 2; have d83 := kz8.cell 3; have d84 := kz8.cell 4; have d85 := kz8.cell 5; have d86 := kz8.cell 6; simp at d80 d81 d82 d83 d84 d85 d86)); (try (have e78 := kz7.apart kz8 (by decide); have e87 := kz8.apart kz7 (by decide))); have hq : CpQ w1 wz kA zA kc zc xn en d kb := ⟨hcl, (((hok).alloc _).below hcl2).lower (by first | omega | (simp; done) | (simp; omega)), hoz.lower (by have := hky.size; first | omega | (simp; done) | (simp; omega)), fun g hg e => by have h1 := (hok.lt g hg).2; have h2 := (hoz.lt g e).1; (try simp at h2); omega⟩; (try (have m7 : w1.heap.size ≤ w1.heap.size := (by have := hky.size; omega))); (try (have m8 : w1.heap.size ≤ wk.heap.size := (by have := hky.size; omega))))
          | ((with_reducible refine (HCEL.out ((wk.alloc (.cells #[.slice none 0 0, .int .i64 0, .int .i64 0] keyT)).alloc (.cells #[.slice none 0 0, .int .i64 0, .int .i64 0, .int .i64 0, .int .i64 0, .bool false, .bool false] cvT)) (HA1.out _ _ (HA1.out _ _ hky))).mono ?_); rintro e wz ⟨zA, zc, rfl, hoz, hcl, hcl2⟩; have kz7 : Blk wz wk.heap.size keyT #[.slice none 0 0, .int .i64 0, .int .i64 0] := (by simpa using ((Blk.new wk keyT _).alloc _).below hcl2 (by simp <;> omega)); have kz8 : Blk wz (wk.heap.size + 1) cvT #[.slice none 0 0, .int .i64 0, .int .i64 0, .int .i64 0, .int .i64 0, .bool false, .bool false] := (by simpa using (Blk.new (wk.alloc (.cells #[.slice none 0 0, .int .i64 0, .int .i64 0] keyT)) cvT _).below hcl2 (by simp <;> omega)); (try (have l7 := kz7.lt; have f70 := kz7.frozen 0; have f71 := kz7.frozen 1; have f72 := kz7.frozen 2; have d70 := kz7.cell 0; have d71 := kz7.cell 1; have d72 := kz7.cell 2; simp at d70 d71 d72)); (try (have l8 := kz8.lt; have f80 := kz8.frozen 0; have f81 := kz8.frozen 1; have f82 := kz8.frozen 2; have f83 := kz8.frozen 3; have f84 := kz8.frozen 4; have f85 := kz8.frozen 5; have f86 := kz8.frozen 6; have d80 := kz8.cell 0; have d81 := kz8.cell 1; have d82 := kz8.cell 2; have d83 := kz8.cell 3; have d84 := kz8.cell 4; have d85 := kz8.cell 5; have d86 := kz8.cell 6; simp at d80 d81 d82 d83 d84 d85 d86)); (try (have e78 := kz7.apart kz8 (by decide); have e87 := kz8.apart kz7 (by decide))); have hq : CpQ w1 wz kA zA kc zc xn en d kb := ⟨hcl, ((((hok).alloc _).alloc _).below hcl2).lower (by first | omega | (simp; done) | (simp; omega)), hoz.lower (by have := hky.size; first | omega | (simp; done) | (simp; omega)), fun g hg e => by have h1 := (hok.lt g hg).2; have h2 := (hoz.lt g e).1; (try simp at h2); omega⟩; (try (have m7 : w1.heap.size ≤ wk.heap.size := (by have := hky.size; omega))); (try (have m8 : w1.heap.size ≤ wk.heap.size + 1 := (by have := hky.size; omega))))
          | ((with_reducible refine (HCEL.out ((wk.alloc (.cells #[.slice none 0 0, .int .i64 0, .int .i64 0, .int .i64 0, .int .i64 0, .bool false, .bool false] cvT)).alloc (.cells #[.slice none 0 0, .int .i64 0, .int .i64 0] keyT)) (HA1.out _ _ (HA1.out _ _ hky))).mono ?_); rintro e wz ⟨zA, zc, rfl, hoz, hcl, hcl2⟩; have kz7 : Blk wz (wk.heap.size + 1) keyT #[.slice none 0 0, .int .i64 0, .int .i64 0] := (by simpa using (Blk.new (wk.alloc (.cells #[.slice none 0 0, .int .i64 0, .int .i64 0, .int .i64 0, .int .i64 0, .bool false, .bool false] cvT)) keyT _).below hcl2 (by simp <;> omega)); have kz8 : Blk wz wk.heap.size cvT #[.slice none 0 0, .int .i64 0, .int .i64 0, .int .i64 0, .int .i64 0, .bool false, .bool false] := (by simpa using ((Blk.new wk cvT _).alloc _).below hcl2 (by simp <;> omega)); (try (have l7 := kz7.lt; have f70 := kz7.frozen 0; have f71 := kz7.frozen 1; have f72 := kz7.frozen 2; have d70 := kz7.cell 0; have d71 := kz7.cell 1; have d72 := kz7.cell 2; simp at d70 d71 d72)); (try (have l8 := kz8.lt; have f80 := kz8.frozen 0; have f81 := kz8.frozen 1; have f82 := kz8.frozen 2; have f83 := kz8.frozen 3; have f84 := kz8.frozen 4; have f85 := kz8.frozen 5; have f86 := kz8.frozen 6; have d80 := kz8.cell 0; have d81 := kz8.cell 1; have d82 := kz8.cell 2; have d83 := kz8.cell 3; have d84 := kz8.cell 4; have d85 := kz8.cell 5; have d86 := kz8.cell 6; simp at d80 d81 d82 d83 d84 d85 d86)); (try (have e78 := kz7.apart kz8 (by decide); have e87 := kz8.apart kz7 (by decide))); have hq : CpQ w1 wz kA zA kc zc xn en d kb := ⟨hcl, ((((hok).alloc _).alloc _).below hcl2).lower (by first | omega | (simp; done) | (simp; omega)), hoz.lower (by have := hky.size; first | omega | (simp; done) | (simp; omega)), fun g hg e => by have h1 := (hok.lt g hg).2; have h2 := (hoz.lt g e).1; (try simp at h2); omega⟩; (try (have m7 : w1.heap.size ≤ wk.heap.size + 1 := (by have := hky.size; omega))); (try (have m8 : w1.heap.size ≤ wk.heap.size := (by have := hky.size; omega))))))
    all_goals
      go_wp2_with fail
      go_meet
      case rel => first
        | with_reducible exact ⟨_, _, kA, zA, kc, zc, rfl, rfl, hide (hq.l1 xf xt)⟩
        | with_reducible exact ⟨_, _, kA, zA, kc, zc, rfl, rfl, hide (hq.l2 xf xt)⟩
        | with_reducible exact ⟨_, _, kA, zA, kc, zc, rfl, rfl, hide (hq.l3 xf xt (by have := hky.size; omega) kz7)⟩
        | with_reducible exact ⟨_, _, kA, zA, kc, zc, rfl, rfl, hide (hq.l4 xf xt (by have := hky.size; omega) kz8)⟩
        | with_reducible exact ⟨_, _, kA, zA, kc, zc, rfl, rfl, hide (hq.l5 xf xt (by have := hky.size; omega) (by have := hky.size; omega) kz7 kz8)⟩
  case rest =>
  obtain ⟨k7, c8, kA, zA, kc, zc, rfl, rfl, HC⟩ := hcut
  clear HKEY HCEL HS HD1 HA1 HR1 HSE3 HSE7 HBQ
  have HBC : Hid (Below X.heap.size X wc) := HB0.out.trans (HC.out.1.mono HB0.out.size)
  have HPUT := hide (lput_z w X wc tb cb xn kc en zc wm fm bg L W F D kA zA (⟨.slice xA xn xc, kb, xf, xt, .slice eA en ec, d⟩ : RC) HT.out HBC.out (HC.out.2.2.2.1.lower (Nat.zero_le _)) HXK.out.2.1 HXK.out.2.2.1 (HC.out.2.2.2.2.1.lower (Nat.zero_le _)) HXA.out.2.1 HXA.out.2.2.1)
  have hxl := HXK.out.2.2.2
  have hel := HXA.out.2.2.2
  have HAP : Hid ((∀ g, (Value.slice kA xn kc).ownBlock = some g → (Value.slice zA en zc).ownBlock ≠ some g) ∧ (∀ g, (Value.slice kA xn kc).ownBlock = some g → g < wc.heap.size) ∧ (∀ g, (Value.slice zA en zc).ownBlock = some g → g < wc.heap.size)) := ⟨HC.out.2.2.2.2.2, fun g hg => (HC.out.2.2.2.1.lt g hg).2, fun g hg => (HC.out.2.2.2.2.1.lt g hg).2⟩
  have HOC := hide (HOP.out.below HC.out.1 HOP.out.lt)
  have h7 := HC.out.2.1.lt
  have h8 := HC.out.2.2.1.lt
  have k0 : wc.cell? ⟨k7, 0, none⟩ = some (.slice kA xn kc) := HC.out.2.1.cell 0
  have k1 : wc.cell? ⟨k7, 1, none⟩ = some (.int .i64 xf) := HC.out.2.1.cell 1
  have k2 : wc.cell? ⟨k7, 2, none⟩ = some (.int .i64 xt) := HC.out.2.1.cell 2
  have z0 : wc.cell? ⟨c8, 0, none⟩ = some (.slice zA en zc) := HC.out.2.2.1.cell 0
  have z1 : wc.cell? ⟨c8, 1, none⟩ = some (.int .i64 d.s) := HC.out.2.2.1.cell 1
  have z2 : wc.cell? ⟨c8, 2, none⟩ = some (.int .i64 d.n) := HC.out.2.2.1.cell 2
  have z3 : wc.cell? ⟨c8, 3, none⟩ = some (.int .i64 d.g) := HC.out.2.2.1.cell 3
  have z4 : wc.cell? ⟨c8, 4, none⟩ = some (.int .i64 d.h) := HC.out.2.2.1.cell 4
  have z5 : wc.cell? ⟨c8, 5, none⟩ = some (.bool d.p) := HC.out.2.2.1.cell 5
  have z6 : wc.cell? ⟨c8, 6, none⟩ = some (.bool d.c) := HC.out.2.2.1.cell 6
  clear o0 hol
  go_wp2_with fail
  refine HPUT.out.mono ?_
  rintro e w4 ⟨r, rfl, hkt, L4, W4, F4, hupd, ht4, hL4, hW4, hlow⟩
  simp only at hupd
  have HUP := hide hupd
  have HT4 := hide ht4
  have HL4 := hide hL4
  have HW4 := hide hW4
  have HLOW := hide hlow
  have HKX : Hid (Kt X w4) := (Kt.below HBC.out).trans hkt
  have HZ4 : Hid (ZI w1 wc w4 w4 k7 c8 ob kA zA kc zc xn en xf xt d #[.int .i64 1, .slice xA xn xc, .int .i64 xf, .int .i64 xt, .slice eA en ec, .int .i64 d.s, .int .i64 d.n, .int .i64 d.g, .int .i64 d.h, .bool d.p, .bool d.c]) := ⟨Fr.refl _ _, hkt.blk HC.out.2.1 (by decide), hkt.blk HC.out.2.2.1 (by decide), ⟨_, hkt.own HC.out.2.2.2.1 (by decide)⟩, ⟨_, hkt.own HC.out.2.2.2.2.1 (by decide)⟩, hkt.blk HOC.out (by decide)⟩
  clear hupd ht4 hL4 hW4 hlow hkt HC HPUT HOC HOP k0 k1 k2 z0 z1 z2 z3 z4 z5 z6 h7 h8
  have k0 : w4.cell? ⟨k7, 0, none⟩ = some (.slice kA xn kc) := HZ4.out.k7.cell 0
  have h7 := HZ4.out.k7.lt
  go_wp2_with fail
  clear k0 h7
  go_loopw [37] (fun i wr => ∃ (k : Nat), k ≤ xn ∧ i = .int .i64 k ∧ Hid (ZI w1 wc w4 wr k7 c8 ob kA zA kc zc xn en xf xt d #[.int .i64 1, .slice xA xn xc, .int .i64 xf, .int .i64 xt, .slice eA en ec, .int .i64 d.s, .int .i64 d.n, .int .i64 d.g, .int .i64 d.h, .bool d.p, .bool d.c])) (fun i _ => xn - (intOf i).toNat)
  case atStart => exact ⟨0, Nat.zero_le _, rfl, HZ4.out⟩
  case round =>
  clear HZ4
  obtain ⟨k, hk, rfl, HZ⟩ := hrel
  by_cases hlt : k < xn
  · have hki : (k : Int) < (xn : Int) := by omega
    obtain ⟨ad, q, rfl, q0, q1, q2, hq⟩ := HZ.out.key HAP.out.1 HAP.out.2.1 hlt
    have HQ := hide (hq (.int .u8 0))
    have k0 : wr.cell? ⟨k7, 0, none⟩ = some (.slice (some ad) xn kc) := HZ.out.k7.cell 0
    have h7 := HZ.out.k7.lt
    clear hq HZ
    go_wp2_with fail
    go_roundw
    case rel => exact ⟨k + 1, by omega, by simp, HQ⟩
    case measure => simp [intOf]; omega
  · have k0 : wr.cell? ⟨k7, 0, none⟩ = some (.slice kA xn kc) := HZ.out.k7.cell 0
    have h7 := HZ.out.k7.lt
    have z0 : wr.cell? ⟨c8, 0, none⟩ = some (.slice zA en zc) := HZ.out.c8.cell 0
    have h8 := HZ.out.c8.lt
    go_wp2_with fail
    clear k0 h7 z0 h8
    go_loopw [48] (fun i wr => ∃ (k : Nat), k ≤ en ∧ i = .int .i64 k ∧ Hid (ZI w1 wc w4 wr k7 c8 ob kA zA kc zc xn en xf xt d #[.int .i64 1, .slice xA xn xc, .int .i64 xf, .int .i64 xt, .slice eA en ec, .int .i64 d.s, .int .i64 d.n, .int .i64 d.g, .int .i64 d.h, .bool d.p, .bool d.c])) (fun i _ => en - (intOf i).toNat)
    case atStart => exact ⟨0, Nat.zero_le _, rfl, HZ.out⟩
    case round =>
    clear HZ
    obtain ⟨k, hk, rfl, HZ⟩ := hrel
    by_cases hlt : k < en
    · have hki : (k : Int) < (en : Int) := by omega
      obtain ⟨ad, q, rfl, q0, q1, q2, hq⟩ := HZ.out.acc HAP.out.1 HAP.out.2.2 hlt
      have HQ := hide (hq (.int .u8 0))
      have z0 : wr.cell? ⟨c8, 0, none⟩ = some (.slice (some ad) en zc) := HZ.out.c8.cell 0
      have h8 := HZ.out.c8.lt
      clear hq HZ
      go_wp2_with fail
      go_roundw
      case rel => exact ⟨k + 1, by omega, by simp, HQ⟩
      case measure => simp [intOf]; omega
    · have HT6 : Hid (TabG w wr tb cb wm fm bg L4 W4 F4) := by
        have ha : X.heap.size ≤ w1.heap.size := HB0.out.size
        refine ⟨HT4.out.ts.band HZ.out.fr (fun j hj => Nat.lt_of_lt_of_le (HLOW.out j hj) ha) (fun p hp g hg => (HL4.out p hp g hg).imp (fun h => Nat.lt_of_lt_of_le h ha) id) (fun e p hp g hg => (HW4.out e p hp g hg).imp (fun h => Nat.lt_of_lt_of_le h ha) id), ?_⟩
        exact HT4.out.bl.trans (HZ.out.fr.below HT4.out.bl.size (fun j hj e => by have := HT.out.bl.size; omega))
      have HK6 : Hid (Kt X wr) := HKX.out.band HZ.out.fr HB0.out.size
      have HR6 := hide (HR.out.kt HK6.out HT6.out.bl)
      have HO6 := hide HZ.out.op
      clear HZ HT4 HKX HLOW HL4 HW4
      have hol := HO6.out.lt
      have o1 : wr.cell? ⟨ob, 1, none⟩ = some (.slice xA xn xc) := HO6.out.cell 1
      have o2 : wr.cell? ⟨ob, 2, none⟩ = some (.int .i64 xf) := HO6.out.cell 2
      have o3 : wr.cell? ⟨ob, 3, none⟩ = some (.int .i64 xt) := HO6.out.cell 3
      have o4 : wr.cell? ⟨ob, 4, none⟩ = some (.slice eA en ec) := HO6.out.cell 4
      have o5 : wr.cell? ⟨ob, 5, none⟩ = some (.int .i64 d.s) := HO6.out.cell 5
      have o6 : wr.cell? ⟨ob, 6, none⟩ = some (.int .i64 d.n) := HO6.out.cell 6
      have o7 : wr.cell? ⟨ob, 7, none⟩ = some (.int .i64 d.g) := HO6.out.cell 7
      have o8 : wr.cell? ⟨ob, 8, none⟩ = some (.int .i64 d.h) := HO6.out.cell 8
      have o9 : wr.cell? ⟨ob, 9, none⟩ = some (.bool d.p) := HO6.out.cell 9
      have o10 : wr.cell? ⟨ob, 10, none⟩ = some (.bool d.c) := HO6.out.cell 10
      have HRI := hide (right_any xA eA xn xc en ec xf xt d HXA.out.2.1 wr)
      go_wp2_with fail
      refine HRI.out.mono ?_
      rintro e w7 ⟨rfl, hb7⟩
      have HT7 := hide (HT6.out.below hb7)
      have HR7 := hide (HR6.out.below hb7)
      have HK7 := hide (HK6.out.trans (Kt.below hb7))
      have HO7 := hide (HO6.out.below hb7 hol)
      clear o1 o2 o3 o4 o5 o6 o7 o8 o9 o10 hol HT6 HR6 HK6 HO6 hb7 HRI
      have hkk : (kb.length) = xn := HXK.out.2.1
      rcases HUP.out with ⟨rfl, hn, hu⟩ | ⟨rfl, hr, hu⟩
      · rw [hkk] at hn
        rw [decide_eq_false hn]
        have HU := hide hu
        clear hu hn
        go_wp2_with fail
        go_ret
        exact ⟨rfl, L4, W4, F4, v, D, HU.out, HT7.out, HR7.out, HK7.out.ks⟩
      · rw [hkk] at hr
        rw [decide_eq_true hr]
        have HU := hide hu
        clear hu hr
        have hol := HO7.out.lt
        have o1 : w7.cell? ⟨ob, 1, none⟩ = some (.slice xA xn xc) := HO7.out.cell 1
        have o2 : w7.cell? ⟨ob, 2, none⟩ = some (.int .i64 xf) := HO7.out.cell 2
        have o3 : w7.cell? ⟨ob, 3, none⟩ = some (.int .i64 xt) := HO7.out.cell 3
        have o4 : w7.cell? ⟨ob, 4, none⟩ = some (.slice eA en ec) := HO7.out.cell 4
        have o5 : w7.cell? ⟨ob, 5, none⟩ = some (.int .i64 d.s) := HO7.out.cell 5
        have o6 : w7.cell? ⟨ob, 6, none⟩ = some (.int .i64 d.n) := HO7.out.cell 6
        have o7 : w7.cell? ⟨ob, 7, none⟩ = some (.int .i64 d.g) := HO7.out.cell 7
        have o8 : w7.cell? ⟨ob, 8, none⟩ = some (.int .i64 d.h) := HO7.out.cell 8
        have o9 : w7.cell? ⟨ob, 9, none⟩ = some (.bool d.p) := HO7.out.cell 9
        have o10 : w7.cell? ⟨ob, 10, none⟩ = some (.bool d.c) := HO7.out.cell 10
        have HRP := hide (rput_any w w7 base xb v u D E b (⟨.slice xA xn xc, kb, xf, xt, .slice eA en ec, d⟩ : RC) HR7.out HX.out hD hwb)
        go_wp2_with fail
        refine HRP.out.mono ?_
        rintro e w8 ⟨rfl, o, hr8, hf8⟩
        have HQ8 : Hid (TabG w w8 tb cb wm fm bg L4 W4 F4 ∧ RT w w8 base xb o (putL (⟨.slice xA xn xc, kb, xf, xt, .slice eA en ec, d⟩ : RC) false D) u E b ∧ Ks X w8) := ⟨HT7.out.of_fr HR7.out.blk hf8 hwb, hr8, HK7.out.ks.trans (Ks.of_fr HR7.out.blk hf8)⟩
        clear hr8 hf8 HRP HT7 HR7 HK7 HO7 o1 o2 o3 o4 o5 o6 o7 o8 o9 o10 hol
        go_wp2_with fail
        go_ret
        exact ⟨rfl, L4, W4, F4, o, _, HU.out, HQ8.out.1, HQ8.out.2.1, HQ8.out.2.2⟩
end Go.Proofs.Ytkobaidamdffmaa
