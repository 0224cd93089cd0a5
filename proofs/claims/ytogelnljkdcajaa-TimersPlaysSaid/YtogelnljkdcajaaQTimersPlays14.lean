/- TimersPlays: a script in memory; what stands between two calls. / TimersPlays: small words for the arms; All of an empty heap; the row for Of. / A piece of a function's code, by a block's or a region's number. -/
import Derived.Test.YtogelnljkdcajaaQTimersPlays13
import Derived.Test.YtogelnljkdcajaaQTimersPlays00
import Derived.Deep.CutBlock

namespace Go.Proofs.Ytogelnljkdcajaa
open Go.RowKit Go.Sort
set_option linter.unusedVariables false
set_option linter.unusedSimpArgs false

structure Op16 where
  k : Int
  now : Int
  tv : Value
  ts : List TV
def Op16.cells (o : Op16) : List Value := [.int .i64 o.k, .int .i64 o.now, o.tv]
def ops16 (S : List Op16) : List Value := S.flatMap Op16.cells
def Op16Q (w : World) (o : Op16) : Prop := Sl w w.heap.size o.tv 5 o.ts.length (tms o.ts) ∧ ∀ x ∈ o.ts, TmQ w x
abbrev opT16 : TypeId := 55
theorem op16_at {w : World} {B n c : Nat} {A : Option Addr} {S : List Op16} (h : Sl w B (.slice A n c) 3 n (ops16 S)) {k : Nat} (hk : k < n) (hD : S.length = n) :
    ∃ ad, A = some ad ∧ (ad.add (k * 3)).block < B ∧ w.cell? (ad.add (k * 3)) = some (.int .i64 (S[k]'(by omega)).k) ∧ w.cell? ⟨(ad.add (k * 3)).block, (ad.add (k * 3)).off + 1, none⟩ = some (.int .i64 (S[k]'(by omega)).now) ∧
      w.cell? ⟨(ad.add (k * 3)).block, (ad.add (k * 3)).off + 2, none⟩ = some (S[k]'(by omega)).tv := by
  obtain ⟨ad, rfl, hb, hh⟩ := h.at_ hk
  rw [ops16, part_of Op16.cells 3 (fun _ => rfl) S k (by omega)] at hh
  refine ⟨ad, rfl, by rw [add_blk]; exact hb, ?_, ?_, ?_⟩
  · have := hh 0 _ rfl
    rwa [add_add'] at this
  · have := hh 1 _ rfl
    rw [add_add', add_fld ad (k * 3) 1 (by omega)] at this
    exact this
  · have := hh 2 _ rfl
    rw [add_add', add_fld ad (k * 3) 2 (by omega)] at this
    exact this

/-- the heap, and the reference's row beside it -/
structure PI (w0 wz : World) (hb tb mb : Nat) (lv : Value) (L : List TV) (v : Value) (X : List TV) : Prop where
  hr : HR w0 wz hb tb mb lv L
  row : Own wz w0.heap.size rtT 5 v X.length (tms X)
  pl : Pl L X
  ky : ∀ x ∈ X, KeyIn w0 w0.heap.size x
section
variable {w0 wz wy : World} {hb tb mb : Nat} {lv v : Value} {L X : List TV}
theorem PI.below (h : PI w0 wz hb tb mb lv L v X) (k : Below wz.heap.size wz wy) : PI w0 wy hb tb mb lv L v X := ⟨h.hr.below k, h.row.below k, h.pl, h.ky⟩
theorem PI.alloc (h : PI w0 wz hb tb mb lv L v X) (o : Obj) : PI w0 (wz.alloc o) hb tb mb lv L v X := h.below ((Below.refl _ _).alloc (Nat.le_refl _) o)
theorem PI.drewN (h : PI w0 wz hb tb mb lv L v X) (q : Nat) : PI w0 (wz.drewN q) hb tb mb lv L v X := h.below ((Below.refl _ _).drewN q)
theorem PI.keys (h : PI w0 wz hb tb mb lv L v X) : ∀ x ∈ X, KeyIn wz wz.heap.size x := fun x hx => ((h.ky x hx).below h.hr.bl).mono h.hr.bl.size
theorem PI.sl (h : PI w0 wz hb tb mb lv L v X) : Sl wz wz.heap.size v 5 X.length (tms X) := h.row.sl
/-- after a call of the heap -/
theorem PI.step (h : PI w0 wz hb tb mb lv L v X) {lv' : Value} {L' : List TV} (hr : HR w0 wy hb tb mb lv' L') (hf : Fr (HBk tb mb lv) wz wy) : Own wy w0.heap.size rtT 5 v X.length (tms X) :=
  h.row.kp (h.hr.kp hf) (by decide) (by decide)
end

/-- while the row for Set is made: W is the world ahead of it -/
structure InI (w0 W wz : World) (hb tb mb : Nat) (lv : Value) (L : List TV) (v : Value) (X : List TV) (u : Value) (q : Nat) (D ts : List TV) : Prop where
  pi : PI w0 wz hb tb mb lv L v X
  at_ : HR w0 W hb tb mb lv L
  own : Own wz W.heap.size tmT 5 u q (tms D)
  len : D.length = q
  eq : D.map TV.d = (ts.take q).map TV.d
  ks : ∀ x ∈ D, Own wz W.heap.size bT 1 x.kv x.kb.length (bys x.kb)
  bl : Below W.heap.size W wz
section
variable {w0 W wz wy : World} {hb tb mb q : Nat} {lv v u : Value} {L X D ts : List TV}
theorem InI.below (h : InI w0 W wz hb tb mb lv L v X u q D ts) (k : Below wz.heap.size wz wy) : InI w0 W wy hb tb mb lv L v X u q D ts :=
  ⟨h.pi.below k, h.at_, h.own.below k, h.len, h.eq, fun x hx => (h.ks x hx).below k, h.bl.trans (k.mono h.bl.size)⟩
theorem InI.zero (h : PI w0 W hb tb mb lv L v X) (ts : List TV) : InI w0 W W hb tb mb lv L v X (.slice none 0 0) 0 [] ts :=
  ⟨h, h.hr, Own.nil _ _ _ _, rfl, rfl, (fun x hx => by cases hx), Below.refl _ _⟩
/-- a timer more -/
theorem InI.app (h : InI w0 W wz hb tb mb lv L v X u q D ts) {x t : TV} {u' : Value} (ho : Own wz W.heap.size bT 1 x.kv x.kb.length (bys x.kb)) (hx : x.d = t.d) (hq : q < ts.length) (ht : ts[q] = t)
    (ha : App wz W.heap.size tmT 5 u (q + 1) (tms D ++ tms [x]) u' wy) : InI w0 W wy hb tb mb lv L v X u' (q + 1) (D ++ [x]) ts := by
  have hb1 : Below W.heap.size wz wy := ha.fr.below h.bl.size (fun k hk e => by have := (h.own.lt k e).1; omega)
  have hbt : ∀ g cs, Blk wz g bT cs → ¬ u.ownBlock = some g := fun g cs hc e => by
    obtain ⟨c2, k⟩ := h.own.typed g e
    exact hc.apart k (by decide) rfl
  have hty := h.own.typed
  have hz := h.at_.bl.size
  have hr' : HR w0 wy hb tb mb lv L := by
    obtain ⟨⟨c1, k1⟩, k2, k3, k4⟩ := h.pi.hr.hp.typed
    have hl := h.at_.hp.lts
    refine ⟨h.pi.hr.hp.fr ha.fr (fun e => ?_) (fun e => ?_) (fun e => ?_) (fun g hg e => ?_) hbt, h.pi.hr.bl.trans (hb1.mono hz)⟩
    · obtain ⟨c2, k⟩ := hty _ e; exact k4.apart k (by decide) rfl
    · obtain ⟨c2, k⟩ := hty _ e; exact k1.apart k (by decide) rfl
    · obtain ⟨c2, k⟩ := hty _ e; exact k2 _ _ _ k rfl
    · have := (h.own.lt _ e).1; have := hl g (.inr (.inr hg)); omega
  refine ⟨⟨hr', h.pi.row.fr ha.fr (fun g hg e => ?_), h.pi.pl, h.pi.ky⟩, h.at_, ?_, ?_, ?_, fun y hy => ?_, h.bl.trans hb1⟩
  · obtain ⟨c2, k⟩ := hty _ e
    exact h.pi.row.ne k (by decide) hg
  · rw [show tms (D ++ [x]) = tms D ++ tms [x] from List.flatMap_append ..]
    exact ha.own
  · rw [List.length_append, h.len]; rfl
  · rw [List.map_append, h.eq, List.take_succ_eq_append_getElem hq, List.map_append, ht]
    simp [hx]
  · rcases List.mem_append.1 hy with h9 | h9
    · exact (h.ks y h9).fr ha.fr (fun g hg e => by obtain ⟨cs, hc⟩ := (h.ks y h9).typed g hg; exact hbt g cs hc e)
    · rw [List.mem_singleton.1 h9]
      exact ho.fr ha.fr (fun g hg e => by obtain ⟨cs, hc⟩ := ho.typed g hg; exact hbt g cs hc e)
theorem InI.ap (h : InI w0 W wz hb tb mb lv L v X u q D ts) : ∀ g, u.ownBlock = some g → lv.ownBlock ≠ some g := fun g hg e => by
  have h1 := (h.own.lt g hg).1
  have h2 := h.at_.hp.lts g (.inr (.inr e))
  omega
theorem InI.right (h : InI w0 W wz hb tb mb lv L v X u q D ts) (hq : q = ts.length) : AllRight D ↔ AllRight ts := by
  have he := h.eq
  rw [hq, List.take_length] at he
  have key : ∀ A B : List TV, A.map TV.d = B.map TV.d → AllRight A → AllRight B := fun A B e k y hy => by
    have hm : y.d ∈ A.map TV.d := by rw [e]; exact List.mem_map_of_mem hy
    obtain ⟨x, hx, hd⟩ := List.mem_map.1 hm
    rw [← TV.right_d, ← hd, TV.right_d]
    exact k x hx
  exact ⟨key _ _ he, key _ _ he.symm⟩
theorem InI.b8 (h : InI w0 W wz hb tb mb lv L v X u q D ts) (h8 : ∀ t ∈ ts, Bytes8 t.kb) : ∀ x ∈ D, Bytes8 x.kb := fun x hx => by
  have hm : x.d ∈ (ts.take q).map TV.d := by rw [← h.eq]; exact List.mem_map_of_mem hx
  obtain ⟨t, ht, hd⟩ := List.mem_map.1 hm
  have := h8 t (List.mem_of_mem_take ht)
  rw [show x.kb = t.kb from (congrArg TD.b hd).symm]
  exact this
/-- behind Set -/
theorem InI.set (h : InI w0 W wz hb tb mb lv L v X u q D ts) {lv' : Value} {L' : List TV} {z : Int} (hs : SetQ w0 wz wy hb tb mb lv lv' L L' D z) : PZ w0 wy hb tb mb W.heap.size wz.heap.size lv' L' v X u q D := by
  refine ⟨hs.hr, hs.nk.away (h.at_.away (Nat.le_refl _) _), h.at_.bl.size, h.pi.step hs.hr hs.fr, ?_, fun x hx => ?_⟩
  · exact (h.own.fr hs.fr (fun g hg => by obtain ⟨cs, hc⟩ := h.own.typed g hg; exact h.pi.hr.hp.nwr hc (by decide) (h.ap g hg))).lower h.at_.bl.size
  · have ho := h.ks x hx
    have ho2 := ho.fr hs.fr (fun g hg => by obtain ⟨cs, hc⟩ := ho.typed g hg; exact h.pi.hr.hp.bnw g cs hc)
    rcases ho2.2 with ⟨h1, h2⟩ | ⟨g, cap, cur, h1, h2, h3, h4, h5, h6, h7⟩
    · rw [h1, h2]
      exact ⟨none, 0, rfl, fun h9 => by omega⟩
    · refine ⟨_, cap, h1, fun _ => ⟨g, cur, rfl, h3, by omega, h2, ?_⟩⟩
      exact (ho.lt g (by rw [h1]; rfl)).2
end
theorem PZ.pi {w0 wz : World} {hb tb mb a b n : Nat} {lv v u : Value} {L X D : List TV} (h : PZ w0 wz hb tb mb a b lv L v X u n D) (hp : Pl L X) (hk : ∀ x ∈ X, KeyIn w0 w0.heap.size x) : PI w0 wz hb tb mb lv L v X := ⟨h.hr, h.row, hp, hk⟩
/-- the byte that is zeroed -/
theorem PZ.byte {w0 wz : World} {hb tb mb a b n : Nat} {lv v u : Value} {L X D : List TV} (h : PZ w0 wz hb tb mb a b lv L v X u n D) {x : TV} (hx : x ∈ D) {A : Option Addr} {c m r : Nat} (hk : x.kv = .slice A m c) (hm : m = x.kb.length) (hr : r < m) :
    ∃ ad y, A = some ad ∧ wz.cell? (ad.add r) = some y ∧ wz.frozen? (ad.add r) = false ∧ (ad.add r).block < wz.heap.size ∧ (∀ z, PZ w0 (wz.setCell (ad.add r) z) hb tb mb a b lv L v X u n D) ∧ ∀ (h t : Nat) (ds : Array Value), t ≠ bT → Blk wz h t ds → ∀ z, Blk (wz.setCell (ad.add r) z) h t ds := by
  obtain ⟨A', c', h1, h2⟩ := h.ks x hx
  obtain ⟨g, cs, h3, h4, h5, h6, h7⟩ := h2 (by omega)
  rw [hk] at h1
  injection h1 with h1 _ _
  have e9 : (⟨g, 0, none⟩ : Addr).add r = ⟨g, r, none⟩ := by unfold Addr.add; split <;> simp_all
  refine ⟨⟨g, 0, none⟩, cs[r]'(by omega), by rw [h1, h3], ?_, by rw [e9]; exact h4.frozen r, by rw [e9]; exact h4.lt, fun z => by rw [e9]; exact h.put h4 h6 h7 r z, fun k t ds ht hk z => by rw [e9]; exact hk.far (p := ⟨g, r, none⟩) (hk.apart h4 ht) z⟩
  rw [e9, h4.cell r]
  exact Array.getElem?_eq_getElem (by omega)

end Go.Proofs.Ytogelnljkdcajaa

namespace Go.Proofs.Ytogelnljkdcajaa
open Go.RowKit Go.Sort
set_option linter.unusedVariables false
set_option linter.unusedSimpArgs false

theorem goneX_mem {X : List TV} {t : TV} (hw : wasX X t = true) : goneX X t ∈ X := by
  unfold goneX
  have hne : X.filter (hit t) ≠ [] := by
    intro he
    unfold wasX at hw
    obtain ⟨x, hx, e⟩ := List.any_eq_true.1 hw
    have : x ∈ X.filter (hit t) := List.mem_filter.2 ⟨hx, e⟩
    rw [he] at this
    cases this
  rw [List.getLast?_eq_some_getLast hne, Option.getD_some]
  exact (List.mem_filter.1 (List.getLast_mem hne)).1
theorem goneX_no {X : List TV} {t : TV} (hw : wasX X t = false) : goneX X t = tz := by
  unfold goneX
  have he : X.filter (hit t) = [] := by
    rw [List.filter_eq_nil_iff]
    intro x hx h9
    have : wasX X t = true := List.any_eq_true.2 ⟨x, hx, h9⟩
    rw [hw] at this
    cases this
  rw [he]
  rfl

/-- the row for Of, while it is made: W is the world ahead of it -/
structure OfI (W wz : World) (X : List TV) (t : TV) (s : Nat) (O : List TV) (u : Value) : Prop where
  own : Own wz W.heap.size rtT 5 u O.length (tms O)
  eq : O = (X.take s).filter (fun x => oneK x t)
  bl : Below W.heap.size W wz
theorem OfI.zero (W : World) (X : List TV) (t : TV) : OfI W W X t 0 [] (.slice none 0 0) := ⟨Own.nil _ _ _ _, rfl, Below.refl _ _⟩
theorem OfI.below {W wz wy : World} {X O : List TV} {t : TV} {s : Nat} {u : Value} (h : OfI W wz X t s O u) (q : Below wz.heap.size wz wy) : OfI W wy X t s O u := ⟨h.own.below q, h.eq, h.bl.trans (q.mono h.bl.size)⟩
theorem OfI.skip {W wz : World} {X O : List TV} {t : TV} {s : Nat} {u : Value} (h : OfI W wz X t s O u) (hs : s < X.length) (hx : oneK X[s] t = false) : OfI W wz X t (s + 1) O u := by
  refine ⟨h.own, ?_, h.bl⟩
  rw [List.take_succ_eq_append_getElem hs, List.filter_append, ← h.eq]
  simp [hx]
theorem OfI.app {W wz wy : World} {X O : List TV} {t : TV} {s : Nat} {u u' : Value} (h : OfI W wz X t s O u) (hs : s < X.length) (hx : oneK X[s] t = true)
    (ha : App wz W.heap.size rtT 5 u (O.length + 1) (tms O ++ tms [X[s]]) u' wy) : OfI W wy X t (s + 1) (O ++ [X[s]]) u' := by
  refine ⟨?_, ?_, h.bl.trans (ha.fr.below h.bl.size (fun k hk e => by have := (h.own.lt k e).1; omega))⟩
  · rw [tms_app, List.length_append]
    exact ha.own
  · rw [List.take_succ_eq_append_getElem hs, List.filter_append, ← h.eq]
    simp [hx]
theorem OfI.len {W wz : World} {X O : List TV} {t : TV} {s : Nat} {u : Value} (h : OfI W wz X t s O u) : O.length ≤ s := by
  rw [h.eq]
  have h1 := List.length_filter_le (fun x => oneK x t) (X.take s)
  have h2 := List.length_take_le s X
  omega
theorem OfI.sub {W wz : World} {X O : List TV} {t : TV} {s : Nat} {u : Value} (h : OfI W wz X t s O u) : ∀ x ∈ O, x ∈ X := by
  rw [h.eq]
  intro x hx
  exact List.mem_of_mem_take (List.mem_filter.1 hx).1
theorem TV.same_d {x y : TV} (h : x.d = y.d) : TV.same x y = true := decide_eq_true h

set_option maxRecDepth 100000 in
set_option maxHeartbeats 4000000 in
/-- All of an empty heap -/
theorem hall_nil (w : World) (base hb tb mb : Nat) (lv : Value) (h : HpS w base hb tb mb lv []) :
    Calls Try.prog 17 #[.pointer (some ⟨hb, 0, none⟩)] w fun e w' => e = .returned (.slice none 0 0) ∧ Below w.heap.size w w' := by
  obtain ⟨c0, t0, t1, hlt, htl, A, c, rfl, hc⟩ := h.open
  have t0' : w.cell? ⟨tb, 0, none⟩ = some (.slice A 0 c) := t0
  clear t0 h
  have HO : Hid (Own w w.heap.size tmT 5 (.slice none 0 0) 0 []) := Own.nil _ _ _ _
  go_enter Try.func17, Try.ntmps17
  go_wp2_with fail
  go_loopw [3, 14] (fun v i wr => v = .slice none 0 0 ∧ i = .int .i64 0 ∧ wr = w) (fun _ i _ => (0 : Nat))
  case atStart => exact ⟨rfl, rfl, rfl⟩
  case round =>
    obtain ⟨rfl, rfl, rfl⟩ := hrel
    go_wp2_with fail
    refine (tsort_any _ [] wr.heap.size wr HO.out (fun x hx => by cases hx) (by simp)).mono ?_
    rintro e w9 ⟨rfl, E, hp, hso, ho9, hf9⟩
    have HB : Hid (Below wr.heap.size wr w9) := hf9.below (Nat.le_refl _) (fun j hj e => by simp [Value.ownBlock] at e)
    clear hp hso ho9 hf9
    go_wp2_with fail
    go_ret
    exact ⟨rfl, HB.out⟩

end Go.Proofs.Ytogelnljkdcajaa

namespace Go.Proofs.Ytogelnljkdcajaa
open Go.RowKit
set_option linter.unusedVariables false

def findBlk (n : Nat) : Code → Option Code
  | .block m c => if m = n then some (.block m c) else findBlk n c
  | .loop c => findBlk n c
  | .scope c => findBlk n c
  | .seq a b => match findBlk n a with
    | some c => some c
    | none => findBlk n b
  | .cond _ a b => match findBlk n a with
    | some c => some c
    | none => findBlk n b
  | _ => none
def findReg (n : Nat) : Code → Option Code
  | .region m o d => if m = n then some (.region m o d) else none
  | .block _ c => findReg n c
  | .loop c => findReg n c
  | .scope c => findReg n c
  | .seq a b => match findReg n a with
    | some c => some c
    | none => findReg n b
  | .cond _ a b => match findReg n a with
    | some c => some c
    | none => findReg n b
  | _ => none
/-- the sequence that begins with region n -/
def findSeq (n : Nat) : Code → Option Code
  | .seq (.region m o d) b => if m = n then some (.seq (.region m o d) b) else findSeq n b
  | .seq a b => match findSeq n a with
    | some c => some c
    | none => findSeq n b
  | .block _ c => findSeq n c
  | .loop c => findSeq n c
  | .scope c => findSeq n c
  | .cond _ a b => match findSeq n a with
    | some c => some c
    | none => findSeq n b
  | _ => none

end Go.Proofs.Ytogelnljkdcajaa
