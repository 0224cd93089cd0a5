/- Rows of timers beside a heap; timers in order. -/
import Derived.Test.YtogelnljkdcajaaLaw16d
import Derived.Test.YtogelnljkdcajaaAll2
namespace Go.Proofs.Ytogelnljkdcajaa
open Go.RowKit Go.Sort
set_option linter.unusedVariables false
set_option linter.unusedSimpArgs false

def TD.tv (p : TD) : TV := ⟨p.a, .slice none 0 0, p.b, p.f, p.t, p.w⟩
def leD (p q : TD) : Prop := leT p.tv q.tv
theorem leD_d (x y : TV) : leD x.d y.d ↔ leT x y := Iff.rfl
theorem or_zero {a b : Int} : orI a b = 0 ↔ a = 0 ∧ b = 0 := by
  unfold orI
  split
  · rename_i h; simp [h]
  · rename_i h; simp [h]
theorem leD_anti (p q : TD) (h : leD p q) (k : leD q p) : p = q := by
  unfold leD leT at h k
  rw [ordT_eq] at h k
  have h0 : ordL p.tv q.tv = 0 := by
    have := cp_L.anti p.tv q.tv
    omega
  obtain ⟨a, b, f, t, w⟩ := p
  obtain ⟨a', b', f', t', w'⟩ := q
  unfold ordL at h0
  obtain ⟨h1, h0⟩ := or_zero.1 h0
  obtain ⟨h2, h0⟩ := or_zero.1 h0
  obtain ⟨h3, h4⟩ := or_zero.1 h0
  simp only [TD.tv, TV.win] at h1 h2 h3 h4
  have h5 := (ordI_zero _ _).1 h2
  injection h5 with h6 h7
  rw [(cmpI_zero _ _).1 h1, (cmpB_zero _ _).1 h3, (cmpI_zero _ _).1 h4, h6, h7]
theorem sorted_eq {A B : List TV} (h : (A.map TV.d).Perm (B.map TV.d)) (hA : A.Pairwise leT) (hB : B.Pairwise leT) : A.map TV.d = B.map TV.d :=
  h.eq_of_pairwise (le := leD) (fun a b _ _ => leD_anti a b) (by rw [List.pairwise_map]; exact hA) (by rw [List.pairwise_map]; exact hB)

/-- a row of timers of the law's own -/
structure Row (w0 wx : World) (lv v : Value) (X : List TV) : Prop where
  own : Own wx w0.heap.size tmT 5 v X.length (tms X)
  ky : ∀ x ∈ X, KeyO wx w0.heap.size x
  ap : ∀ g, v.ownBlock = some g → lv.ownBlock ≠ some g
section
variable {w0 wx wy : World} {hb tb mb : Nat} {lv lv' v v' u : Value} {L X O : List TV}
theorem Row.below (h : Row w0 wx lv v X) (k : Below wx.heap.size wx wy) : Row w0 wy lv v X := ⟨h.own.below k, fun x hx => ⟨(h.ky x hx).1.below k, (h.ky x hx).2⟩, h.ap⟩
theorem Row.step (h : Row w0 wx lv v X) (hr : HR w0 wx hb tb mb lv L) (hf : Fr (HBk tb mb lv) wx wy) (hn : NewB wx lv lv') : Row w0 wy lv' v X := by
  refine ⟨h.own.fr hf (fun g hg => ?_), fun x hx => (h.ky x hx).fr hf hr.hp.bnw, fun g hg e => ?_⟩
  · obtain ⟨cs, hc⟩ := h.own.typed g hg
    exact hr.hp.nwr hc (by decide) (h.ap g hg)
  · rcases hn g e with h9 | h9
    · exact h.ap g hg h9
    · have := (h.own.lt g hg).2; omega
theorem Row.nbt (h : Row w0 wx lv v X) : ∀ g cs, Blk wx g bT cs → ¬ v.ownBlock = some g := fun g cs hc e => by
  obtain ⟨c2, k⟩ := h.own.typed g e
  exact hc.apart k (by decide) rfl
theorem HR.row (h : HR w0 wx hb tb mb lv L) (hr : Row w0 wx lv v X) (hf : Fr (fun k => v.ownBlock = some k) wx wy) : HR w0 wy hb tb mb lv L := by
  obtain ⟨⟨c1, k1⟩, k2, k3, k4⟩ := h.hp.typed
  have hty := hr.own.typed
  refine ⟨h.hp.fr hf (fun e => ?_) (fun e => ?_) (fun e => ?_) (fun g hg e => hr.ap g e hg) hr.nbt, h.bl.trans (hf.below h.bl.size (fun k hk e => ?_))⟩
  · obtain ⟨c2, k⟩ := hty _ e; exact k4.apart k (by decide) rfl
  · obtain ⟨c2, k⟩ := hty _ e; exact k1.apart k (by decide) rfl
  · obtain ⟨c2, k⟩ := hty _ e; exact k2 _ _ _ k rfl
  · have := (hr.own.lt k e).1; omega
theorem Row.row (h : Row w0 wx lv u O) (hr : Row w0 wx lv v X) (hf : Fr (fun k => v.ownBlock = some k) wx wy) (hne : ∀ g, v.ownBlock = some g → u.ownBlock ≠ some g) : Row w0 wy lv u O :=
  ⟨h.own.fr hf (fun g hg e => hne g e hg), fun x hx => (h.ky x hx).fr hf hr.nbt, h.ap⟩
theorem Row.app (h : Row w0 wx lv v O) (hr : HR w0 wx hb tb mb lv L) (hx : ∀ x ∈ X, KeyO wx w0.heap.size x) (ha : App wx w0.heap.size tmT 5 v (O.length + X.length) (tms O ++ tms X) v' wy) : Row w0 wy lv v' (O ++ X) := by
  refine ⟨by rw [tms_app, List.length_append]; exact ha.own, fun y hy => ?_, fun g hg e => ?_⟩
  · rcases List.mem_append.1 hy with h9 | h9
    · exact (h.ky y h9).fr ha.fr h.nbt
    · exact (hx y h9).fr ha.fr h.nbt
  · rcases ha.at_ with h9 | h9
    · exact h.ap g (h9 ▸ hg) e
    · have h8 := h9.symm.trans hg
      injection h8 with h8
      have := hr.hp.lts g (.inr (.inr e))
      omega
/-- an empty literal -/
theorem Row.lit (hr : HR w0 wx hb tb mb lv L) : Row w0 (wx.alloc (.cells #[] tmT)) lv (.slice (some ⟨wx.heap.size, 0, none⟩) 0 0) [] :=
  ⟨Own.new wx w0.heap.size #[] hr.bl.size (by omega) rfl, fun x hx => (by cases hx), fun g hg e => by
    have h9 : wx.heap.size = g := by simpa [Value.ownBlock] using hg
    have := hr.hp.lts g (.inr (.inr e))
    omega⟩
theorem Row.sl (h : Row w0 wx lv v X) : Sl wx wx.heap.size v 5 X.length (tms X) := h.own.sl
end
theorem hall_r (w0 w : World) (hb tb mb : Nat) (lv : Value) (L : List TV) (h : HR w0 w hb tb mb lv L) :
    Calls Try.prog 17 #[.pointer (some ⟨hb, 0, none⟩)] w fun e w' => ∃ (E : List TV) (A : Option Addr) (c : Nat), e = .returned (.slice A E.length c) ∧ Below w.heap.size w w' ∧ HR w0 w' hb tb mb lv L ∧ Row w0 w' lv (.slice A E.length c) E ∧ (∀ g, (Value.slice A E.length c).ownBlock = some g → w.heap.size ≤ g) ∧ (E.map TV.d).Perm (L.map TV.d) ∧ E.Pairwise leT := by
  refine (hall_any w w0.heap.size hb tb mb lv L h.hp).mono ?_
  rintro e w' ⟨E, A, c, rfl, ho, hk, hp, hs, hb'⟩
  refine ⟨E, A, c, rfl, hb', h.below hb', ⟨ho.lower h.bl.size, fun x hx => ⟨(hk x hx).1.lower h.bl.size, (hk x hx).2⟩, fun g hg e => ?_⟩, fun g hg => (ho.lt g hg).1, hp, hs⟩
  have h1 := (ho.lt g hg).1
  have h2 := h.hp.lts g (.inr (.inr e))
  omega
theorem DueR.row {w0 w w' : World} {hb tb mb : Nat} {lv lv' : Value} {L L' O : List TV} {now : Int} {A : Option Addr} {c : Nat} (h : DueR w0 w w' hb tb mb lv lv' L L' O now A c) (hz : w0.heap.size ≤ w.heap.size) : Row w0 w' lv' (.slice A O.length c) O := ⟨h.own.lower hz, h.ky, h.ap⟩

/-- a heap's timers in order: taking those that are due leaves the others, in order -/
theorem due_split {L L' O E X : List TV} (hX : (X.map TV.d).Perm (L.map TV.d)) (hXs : X.Pairwise leT) (hp : L.Perm (O ++ L')) (hO : O.Pairwise leT) (hle : ∀ x ∈ O, ∀ y ∈ L', leT x y) (hE : (E.map TV.d).Perm (L'.map TV.d)) (hEs : E.Pairwise leT) :
    (O ++ E).map TV.d = X.map TV.d := by
  refine sorted_eq ?_ ?_ hXs
  · have h1 : ((O ++ E).map TV.d).Perm ((O ++ L').map TV.d) := by
      rw [List.map_append, List.map_append]
      exact hE.append_left _
    exact h1.trans ((hp.symm.map TV.d).trans hX.symm)
  · rw [List.pairwise_append]
    refine ⟨hO, hEs, fun a ha b hb => ?_⟩
    have hm := hE.mem_iff.1 (List.mem_map_of_mem (f := TV.d) hb)
    obtain ⟨y, hy, hd⟩ := List.mem_map.1 hm
    have h1 := (leD_d a y).2 (hle a ha y hy)
    rw [hd] at h1
    exact h1
/-- one goes -/
theorem can_sorted {L L' X : List TV} {z : TV} {at_ : Nat} (hX : (X.map TV.d).Perm (L.map TV.d)) (hXs : X.Pairwise leT) (hp : L.Perm (L' ++ [z])) (hat : at_ < X.length) (hz : z.d = (X[at_]).d) :
    ((X.take at_ ++ X.drop (at_ + 1)).map TV.d).Perm (L'.map TV.d) ∧ (X.take at_ ++ X.drop (at_ + 1)).Pairwise leT := by
  constructor
  · have h1 : (X.map TV.d).Perm ((X[at_]).d :: (X.take at_ ++ X.drop (at_ + 1)).map TV.d) := by
      have e : X = X.take at_ ++ X[at_] :: X.drop (at_ + 1) := by
        rw [← List.drop_eq_getElem_cons hat, List.take_append_drop]
      have h2 : X.Perm (X[at_] :: (X.take at_ ++ X.drop (at_ + 1))) := by
        have h3 : (X.take at_ ++ X[at_] :: X.drop (at_ + 1)).Perm (X[at_] :: (X.take at_ ++ X.drop (at_ + 1))) := List.perm_middle
        rw [← e] at h3
        exact h3
      exact h2.map TV.d
    have h2 : (L.map TV.d).Perm (z.d :: L'.map TV.d) := by
      have h3 := hp.map TV.d
      rw [List.map_append] at h3
      exact h3.trans (List.perm_append_singleton _ _)
    have h4 := (h1.symm.trans hX).trans h2
    rw [hz] at h4
    exact (List.perm_cons _).1 h4
  · have hs : (X.take at_ ++ X.drop (at_ + 1)).Sublist X := by
      have e : X.take at_ ++ X.drop at_ = X := List.take_append_drop _ _
      have h1 : (X.drop (at_ + 1)).Sublist (X.drop at_) := by
        rw [← List.tail_drop]
        exact List.tail_sublist _
      have h2 := h1.append_left (X.take at_)
      rw [e] at h2
      exact h2
    exact hXs.sublist hs

theorem CanQ.own {w0 W X w' : World} {hb tb mb base n : Nat} {lv lv' v : Value} {L L' : List TV} {z : TV} {ok : Bool} {a : Nm} {xs : List Value} (h : CanQ w0 W X w' hb tb mb lv lv' L L' z ok a) (ho : Own X base tmT 5 v n xs) (hap : ∀ g, v.ownBlock = some g → lv.ownBlock ≠ some g) : Own w' base tmT 5 v n xs :=
  ho.to fun g hg => by
    obtain ⟨cs, hc⟩ := ho.typed g hg
    exact (h.old g cs hc (hap g hg)).1.trans (show X.heap[g]? = _ from hc).symm
theorem KeyO.kp {w w' : World} {base : Nat} {x : TV} (h : KeyO w base x) (k : Kp w w') : KeyO w' base x :=
  ⟨h.1.to fun g hg => by
    obtain ⟨cs, hc⟩ := h.1.typed g hg
    exact (k g bT cs (by decide) (by decide) hc).trans (show w.heap[g]? = _ from hc).symm, h.2⟩
theorem CanQ.row {w0 W X w' : World} {hb tb mb : Nat} {lv lv' v : Value} {L L' R : List TV} {z : TV} {ok : Bool} {a : Nm} (h : CanQ w0 W X w' hb tb mb lv lv' L L' z ok a) (hX : Below W.heap.size W X) (hr : Row w0 W lv v R) : Row w0 w' lv' v R := by
  have hx := hr.below hX
  refine ⟨h.own hx.own hr.ap, fun x hx => (hr.ky x hx).kp h.kp, fun g hg => ?_⟩
  obtain ⟨cs, hc⟩ := hx.own.typed g hg
  exact (h.old g cs hc (hr.ap g hg)).2
theorem Row.put5 {w0 wx : World} {lv v : Value} {R : List TV} {nb : Nat} {cs : Array Value} (h : Row w0 wx lv v R) (hn : Blk wx nb tmT cs) (hne : v.ownBlock ≠ some nb) (z : TV) : Row w0 (Go.Proofs.Ytogelnljkdcajaa.put5 wx ⟨nb, 0, none⟩ z) lv v R := by
  have hf : Fr (fun j => j = nb) wx (Go.Proofs.Ytogelnljkdcajaa.put5 wx ⟨nb, 0, none⟩ z) := put5_fr (S := fun j => j = nb) (p := ⟨nb, 0, none⟩) (Fr.refl _ wx) rfl z
  exact ⟨h.own.fr hf (fun g hg e => hne (by rw [hg, e])), fun x hx => (h.ky x hx).fr hf (fun g cs hc => hc.apart hn (by decide)), h.ap⟩
/-- the timer that a law cancels out of its own row -/
theorem can_in {L L' X : List TV} {z x : TV} {ok : Bool} (hX : (X.map TV.d).Perm (L.map TV.d)) (hnd : (L.map TV.nm).Nodup) (hx : x ∈ X) (res : (ok = true ∧ z ∈ L ∧ z.nm = x.nm ∧ L.Perm (L' ++ [z])) ∨ (ok = false ∧ z = tz ∧ x.nm ∉ L.map TV.nm ∧ L' = L)) :
    ok = true ∧ z.d = x.d ∧ L.Perm (L' ++ [z]) := by
  obtain ⟨y, hy, hyd⟩ := List.mem_map.1 (hX.mem_iff.1 (List.mem_map_of_mem (f := TV.d) hx))
  have hyn : y.nm = x.nm := congrArg TD.nm hyd
  rcases res with ⟨h1, h2, h3, h4⟩ | ⟨h1, h2, h3, h4⟩
  · refine ⟨h1, ?_, h4⟩
    have hzy : z = y := by
      obtain ⟨i, hi, rfl⟩ := List.getElem_of_mem h2
      obtain ⟨j, hj, rfl⟩ := List.getElem_of_mem hy
      have he : (L.map TV.nm)[i]'(by simpa using hi) = (L.map TV.nm)[j]'(by simpa using hj) := by
        rw [List.getElem_map, List.getElem_map, h3, hyn]
      have := (List.getElem_inj hnd).1 he
      subst this
      rfl
    rw [hzy]
    exact hyd
  · exact absurd (by rw [← hyn]; exact List.mem_map_of_mem hy) h3

end Go.Proofs.Ytogelnljkdcajaa
