/- ShufflePlays: the two queues side by side; take and settle, each in one contract. -/
import Derived.Test.YtlaijnabdlidiaaLaw17d
import Derived.Test.YtlaijnabdlidiaaRef17c
namespace Go.Proofs.Ytlaijnabdlidiaa
open Go.RowKit
set_option linter.unusedVariables false
set_option linter.unusedSimpArgs false

theorem Own.raise {w : World} {base base' e sz n : Nat} {v : Value} {xs : List Value} (h : Own w base e sz v n xs) (hb : ∀ g, v.ownBlock = some g → base' ≤ g) : Own w base' e sz v n xs := by
  refine ⟨h.1, ?_⟩
  rcases h.2 with h2 | ⟨g, cap, cur, rfl, hb', rest⟩
  · exact .inl h2
  · exact .inr ⟨g, cap, cur, rfl, hb g rfl, rest⟩

/-- a queue and the reference's queue, apart -/
def PS (w : World) (base qb xb : Nat) (F G : Nat → Prop) (W Bn : List Itm) (p : Int) (W' Bn' : List Itm) (p' : Int) : Prop :=
  QR w base qb F W Bn p ∧ XR w base xb G W' Bn' p' ∧ ∀ k, F k → ¬ G k
section
variable {w w' : World} {base qb xb : Nat} {F G F1 G1 : Nat → Prop} {W Bn W' Bn' W1 Bn1 : List Itm} {p p' p1 : Int}
theorem PS.below (h : PS w base qb xb F G W Bn p W' Bn' p') (hb : Below w.heap.size w w') : PS w' base qb xb F G W Bn p W' Bn' p' := ⟨h.1.below hb, h.2.1.below hb, h.2.2⟩
theorem PS.alloc (h : PS w base qb xb F G W Bn p W' Bn' p') (o : Obj) : PS (w.alloc o) base qb xb F G W Bn p W' Bn' p' := ⟨h.1.alloc o, h.2.1.alloc o, h.2.2⟩
theorem PS.drewN (h : PS w base qb xb F G W Bn p W' Bn' p') (n : Nat) : PS (w.drewN n) base qb xb F G W Bn p W' Bn' p' := h
theorem PS.q (h : PS w base qb xb F G W Bn p W' Bn' p') (hq : QR w' base qb F1 W1 Bn1 p1) (hf : Fr F w w') (hs : ∀ k, F1 k → F k ∨ w.heap.size ≤ k) : PS w' base qb xb F1 G W1 Bn1 p1 W' Bn' p' := by
  refine ⟨hq, h.2.1.fr hf (fun k hk hF => h.2.2 k hF hk), fun k hk hG => ?_⟩
  rcases hs k hk with h9 | h9
  · exact h.2.2 k h9 hG
  · have := (h.2.1.inG k hG).2; omega
theorem XR.atb {w : World} {base b : Nat} {G : Nat → Prop} {W Bn : List Itm} {p : Int} (h : XR w base b G W Bn p) : G b := by
  obtain ⟨wv, bv, h1, h2, h3, h4, _⟩ := h
  exact h4
theorem QR.atb {w : World} {base b : Nat} {G : Nat → Prop} {W Bn : List Itm} {p : Int} (h : QR w base b G W Bn p) : G b := by
  obtain ⟨wv, bv, h1, h2, h3, h4, h5, _⟩ := h
  exact h5
theorem PS.x (h : PS w base qb xb F G W Bn p W' Bn' p') (hx : XR w' base xb G1 W1 Bn1 p1) (hf : Fr (fun k => k = xb) w w') (hs : ∀ k, G1 k → G k ∨ w.heap.size ≤ k) : PS w' base qb xb F G1 W Bn p W1 Bn1 p1 := by
  refine ⟨h.1.fr hf (fun k hk e => h.2.2 k hk (by rw [e]; exact h.2.1.atb)), hx, fun k hk hG => ?_⟩
  rcases hs k hG with h9 | h9
  · exact h.2.2 k hk h9
  · have := (h.1.inF k hk).2; omega
theorem XR.apart {w w1 : World} {base b : Nat} {G : Nat → Prop} {W Bn : List Itm} {p : Int} (h : XR w base b G W Bn p) (hf : Fr (fun k => k = b) w w1) (hb : base ≤ w.heap.size) : Below base w w1 :=
  hf.below hb (fun k hk hF => by have := (h.inG k (by rw [hF]; exact h.atb)).1; omega)
end

/-- what of W is taken -/
def tkM (W Bn : List Itm) (n : Int) : Nat := if 0 < Bn.length ∨ n < 1 ∨ W.length = 0 then 0 else if n ≤ W.length then n.toNat else W.length
def tkE (W Bn : List Itm) (n : Int) : Int := if 0 < Bn.length then 171 else if n < 1 ∨ W.length = 0 then 170 else 0
def tkB (W Bn : List Itm) (n : Int) : List Itm := if 0 < Bn.length ∨ n < 1 ∨ W.length = 0 then Bn else W.take (tkM W Bn n)

def TQPost (w : World) (base b : Nat) (F : Nat → Prop) (W Bn : List Itm) (p n : Int) (e : Ending) (w' : World) : Prop :=
  ∃ v F', e = .returned (.tuple #[v, .int .i64 (tkE W Bn n)]) ∧ QR w' base b F' (W.drop (tkM W Bn n)) (tkB W Bn n) p ∧ Own w' w.heap.size iT 2 v (tkM W Bn n) (its (W.take (tkM W Bn n))) ∧ (∀ g, v.ownBlock = some g → ¬ F' g) ∧ Fr F w w' ∧ (∀ k, F' k → F k ∨ w.heap.size ≤ k)
def TXPost (w : World) (base b : Nat) (G : Nat → Prop) (W Bn : List Itm) (p n : Int) (e : Ending) (w' : World) : Prop :=
  ∃ v G', e = .returned (.tuple #[v, .int .i64 (tkE W Bn n)]) ∧ XR w' base b G' (W.drop (tkM W Bn n)) (tkB W Bn n) p ∧ Own w' base iT 2 v (tkM W Bn n) (its (W.take (tkM W Bn n))) ∧ Fr (fun k => k = b) w w' ∧ (∀ k, G' k → G k ∨ w.heap.size ≤ k)

theorem tk_cases (W : List Itm) (n : Int) (h : ¬ (n < 1 ∨ W.length = 0)) : 1 ≤ tkM W [] n ∧ tkM W [] n ≤ W.length ∧ (n = tkM W [] n ∨ (W.length < n ∧ tkM W [] n = W.length)) := by
  have h1 : ¬ (0 < ([] : List Itm).length ∨ n < 1 ∨ W.length = 0) := by simpa using h
  unfold tkM
  rw [if_neg h1]
  split
  · omega
  · omega

theorem take_any17 (w : World) (base b : Nat) (F : Nat → Prop) (W Bn : List Itm) (p n : Int) (h : QR w base b F W Bn p) (hW : W.length ≤ 8796093022207) (hbase : base ≤ w.heap.size) :
    Calls Try.prog 11 #[.pointer (some ⟨b, 0, none⟩), .int .i64 n] w (TQPost w base b F W Bn p n) := by
  by_cases hB : 0 < Bn.length
  · refine (take_busy w base b F W Bn p n h hB).mono ?_
    rintro e w' ⟨rfl, rfl⟩
    have e1 : tkM W Bn n = 0 := by unfold tkM; rw [if_pos (.inl hB)]
    have e2 : tkE W Bn n = 171 := by unfold tkE; rw [if_pos hB]
    have e3 : tkB W Bn n = Bn := by unfold tkB; rw [if_pos (.inl hB)]
    refine ⟨.slice none 0 0, F, by rw [e2], by rw [e1, e3]; exact h, by rw [e1]; exact Own.nil _ _ _ _, (fun g hg => by cases hg), Fr.refl _ _, fun k hk => .inl hk⟩
  · have hB0 := len_pos hB
    subst hB0
    by_cases hn : n < 1 ∨ W.length = 0
    · refine (take_none w base b F W p n h hn).mono ?_
      rintro e w' ⟨rfl, rfl⟩
      have e1 : tkM W [] n = 0 := by unfold tkM; rw [if_pos (.inr hn)]
      have e2 : tkE W [] n = 170 := by unfold tkE; rw [if_neg hB, if_pos hn]
      have e3 : tkB W [] n = [] := by unfold tkB; rw [if_pos (.inr hn)]
      refine ⟨.slice none 0 0, F, by rw [e2], by rw [e1, e3]; exact h, by rw [e1]; exact Own.nil _ _ _ _, (fun g hg => by cases hg), Fr.refl _ _, fun k hk => .inl hk⟩
    · obtain ⟨h1, h2, h3⟩ := tk_cases W n hn
      refine (take_some w base b F W (tkM W [] n) p n h h1 h2 h3 hW hbase).mono ?_
      rintro e w' ⟨v, F1, rfl, hq, ho, hfr, hf, hsub⟩
      have hh : ¬ (0 < ([] : List Itm).length ∨ n < 1 ∨ W.length = 0) := by simpa using hn
      have e2 : tkE W [] n = 0 := by unfold tkE; rw [if_neg hB, if_neg hn]
      have e3 : tkB W [] n = W.take (tkM W [] n) := by unfold tkB; rw [if_neg hh]
      exact ⟨v, F1, by rw [e2], by rw [e3]; exact hq, ho.raise (fun g hg => (hfr g hg).1), fun g hg => (hfr g hg).2, hf, hsub⟩

theorem xtake_any17 (w : World) (base b : Nat) (G : Nat → Prop) (W Bn : List Itm) (p n : Int) (h : XR w base b G W Bn p) (hW : W.length ≤ 8796093022207) :
    Calls Try.prog 20 #[.pointer (some ⟨b, 0, none⟩), .int .i64 n] w (TXPost w base b G W Bn p n) := by
  by_cases hB : 0 < Bn.length
  · refine (xtake_busy w base b G W Bn p n h hB).mono ?_
    rintro e w' ⟨rfl, rfl⟩
    have e1 : tkM W Bn n = 0 := by unfold tkM; rw [if_pos (.inl hB)]
    have e2 : tkE W Bn n = 171 := by unfold tkE; rw [if_pos hB]
    have e3 : tkB W Bn n = Bn := by unfold tkB; rw [if_pos (.inl hB)]
    refine ⟨.slice none 0 0, G, by rw [e2], by rw [e1, e3]; exact h, by rw [e1]; exact Own.nil _ _ _ _, Fr.refl _ _, fun k hk => .inl hk⟩
  · have hB0 := len_pos hB
    subst hB0
    by_cases hn : n < 1 ∨ W.length = 0
    · refine (xtake_none w base b G W p n h hn).mono ?_
      rintro e w' ⟨rfl, rfl⟩
      have e1 : tkM W [] n = 0 := by unfold tkM; rw [if_pos (.inr hn)]
      have e2 : tkE W [] n = 170 := by unfold tkE; rw [if_neg hB, if_pos hn]
      have e3 : tkB W [] n = [] := by unfold tkB; rw [if_pos (.inr hn)]
      refine ⟨.slice none 0 0, G, by rw [e2], by rw [e1, e3]; exact h, by rw [e1]; exact Own.nil _ _ _ _, Fr.refl _ _, fun k hk => .inl hk⟩
    · obtain ⟨h1, h2, h3⟩ := tk_cases W n hn
      refine (xtake_some w base b G W (tkM W [] n) p n h h1 h2 h3 hW).mono ?_
      rintro e w' ⟨v, G1, rfl, ho, hq, hf, hsub⟩
      have hh : ¬ (0 < ([] : List Itm).length ∨ n < 1 ∨ W.length = 0) := by simpa using hn
      have e2 : tkE W [] n = 0 := by unfold tkE; rw [if_neg hB, if_neg hn]
      have e3 : tkB W [] n = W.take (tkM W [] n) := by unfold tkB; rw [if_neg hh]
      exact ⟨v, G1, by rw [e2], by rw [e3]; exact hq, ho, hf, hsub⟩

def stE (Bn : List Itm) : Int := if Bn.length = 0 then 171 else 0
theorem settle_any17 (w : World) (base b : Nat) (F : Nat → Prop) (W Bn : List Itm) (p : Int) (back : Bool) (h : QR w base b F W Bn p) (hn : Bn.length + W.length ≤ 8796093022207) (hp : 0 ≤ p) (hp2 : p ≤ 2305843009213693952) (hbase : base ≤ w.heap.size) :
    Calls Try.prog 12 #[.pointer (some ⟨b, 0, none⟩), .bool back] w (QPost w base b F (.tuple #[.int .i64 Bn.length, .int .i64 (stE Bn)]) (if back then Bn ++ W else W) [] (if back then p else p + Bn.length)) := by
  by_cases hB : 0 < Bn.length
  · have e1 : stE Bn = 0 := by unfold stE; rw [if_neg (by omega)]
    rw [e1]
    cases back
    · exact settle17_gone w base b F W Bn p h hB (by omega) hp hp2
    · exact settle17_back w base b F W Bn p h hB hn hbase
  · have hB0 := len_pos hB
    subst hB0
    have e1 : stE [] = 171 := rfl
    rw [e1]
    cases back
    · have h9 := settle17_goneno w base b F W p h hp hp2
      simpa using h9
    · exact settle17_backno w base b F W p h (by simpa using hn) hbase
theorem xsettle_any17 (w : World) (base b : Nat) (G : Nat → Prop) (W Bn : List Itm) (p : Int) (back : Bool) (h : XR w base b G W Bn p) (hn : Bn.length + W.length ≤ 8796093022207) (hp : 0 ≤ p) (hp2 : p ≤ 2305843009213693952) :
    Calls Try.prog 21 #[.pointer (some ⟨b, 0, none⟩), .bool back] w (XPost w base b G (.tuple #[.int .i64 Bn.length, .bool (!(decide (Bn.length = 0)))]) (if back then Bn ++ W else W) [] (if back then p else p + Bn.length)) := by
  by_cases hB : 0 < Bn.length
  · have e1 : (!(decide (Bn.length = 0))) = true := by rw [decide_eq_false (by omega)]; rfl
    rw [e1]
    cases back
    · exact xsettle_ack w base b G W Bn p h hB (by omega) hp hp2
    · exact xsettle_nack w base b G W Bn p h hB hn
  · have hB0 := len_pos hB
    subst hB0
    refine (xsettle_no w base b G W p back h).mono ?_
    rintro e w' ⟨rfl, rfl⟩
    refine ⟨G, rfl, ?_, Fr.refl _ _, fun k hk => .inl hk⟩
    cases back
    · simpa using h
    · exact h

theorem PS.put {w : World} {base qb xb : Nat} {F G : Nat → Prop} {W Bn W' Bn' : List Itm} {p p' : Int} (h : PS w base qb xb F G W Bn p W' Bn' p') {a : Addr} (h1 : ¬ (F a.block ∨ G a.block)) (u : Value) : PS (w.setCell a u) base qb xb F G W Bn p W' Bn' p' := by
  have hf : Fr (fun k => k = a.block) w (w.setCell a u) := Fr.put (S := fun k => k = a.block) (Fr.refl _ w) (.inl rfl) u
  exact ⟨h.1.fr hf (fun k hk e => h1 (.inl (by rw [← e]; exact hk))), h.2.1.fr hf (fun k hk e => h1 (.inr (by rw [← e]; exact hk))), h.2.2⟩

/-- there is room for n elements at the slice v, in a block that is not one of N -/
def Room (w : World) (base : Nat) (N : Nat → Prop) (v : Value) (n : Nat) : Prop :=
  (v = .slice none 0 0 ∧ n = 0) ∨ ∃ g cap cur, v = .slice (some ⟨g, 0, none⟩) n cap ∧ base ≤ g ∧ ¬ N g ∧ Blk w g iT cur ∧ n * 2 ≤ cur.size
theorem Own.room {w : World} {base n : Nat} {v : Value} {xs : List Value} (h : Own w base iT 2 v n xs) {N : Nat → Prop} (hN : ∀ g, v.ownBlock = some g → ¬ N g) : Room w base N v n := by
  rcases h.2 with h2 | ⟨g, cap, cur, rfl, hb', hh, hc, _, hs, _⟩
  · exact .inl h2
  · exact .inr ⟨g, cap, cur, rfl, hb', hN g rfl, hh, by omega⟩
theorem Room.to {w w' : World} {base n : Nat} {N N' : Nat → Prop} {v : Value} (h : Room w base N v n) (hw : ∀ g, v.ownBlock = some g → ¬ N g → w'.heap[g]? = w.heap[g]?) (hN : ∀ g, v.ownBlock = some g → ¬ N g → ¬ N' g) : Room w' base N' v n := by
  rcases h with h2 | ⟨g, cap, cur, rfl, hb', hn, hh, hc⟩
  · exact .inl h2
  · exact .inr ⟨g, cap, cur, rfl, hb', hN g rfl hn, (hw g rfl hn).trans hh, hc⟩
theorem Room.at_ {w : World} {base n c k : Nat} {N : Nat → Prop} {A : Option Addr} (h : Room w base N (.slice A n c) n) (hk : k < n) :
    ∃ ad u0 u1, A = some ad ∧ (ad.add (k * 2)).block < w.heap.size ∧ w.cell? (ad.add (k * 2)) = some u0 ∧ w.cell? ⟨(ad.add (k * 2)).block, (ad.add (k * 2)).off + 1, none⟩ = some u1 ∧
      w.frozen? (ad.add (k * 2)) = false ∧ (∀ x, (w.setCell (ad.add (k * 2)) x).cell? ⟨(ad.add (k * 2)).block, (ad.add (k * 2)).off + 1, none⟩ = some u1) ∧ (∀ x, (w.setCell (ad.add (k * 2)) x).frozen? ⟨(ad.add (k * 2)).block, (ad.add (k * 2)).off + 1, none⟩ = false) ∧ Hid (base ≤ (ad.add (k * 2)).block ∧ ¬ N (ad.add (k * 2)).block) ∧
      Hid (∀ x y, Room ((w.setCell (ad.add (k * 2)) x).setCell ⟨(ad.add (k * 2)).block, (ad.add (k * 2)).off + 1, none⟩ y) base N (.slice (some ad) n c) n) := by
  rcases h with ⟨_, h2⟩ | ⟨g, cap, cur, he, hb', hn, hh, hc⟩
  · omega
  · injection he with h1 h2 h3
    subst h1
    subst h3
    have hadd : (⟨g, 0, none⟩ : Addr).add (k * 2) = ⟨g, k * 2, none⟩ := by unfold Addr.add; split <;> simp_all
    refine ⟨⟨g, 0, none⟩, cur[k * 2]'(by omega), cur[k * 2 + 1]'(by omega), rfl, ?_⟩
    rw [hadd]
    refine ⟨hh.lt, ?_, ?_, hh.frozen _, fun x => ?_, fun x => (hh.put _ x).frozen _, ⟨hb', hn⟩, fun x y => ?_⟩
    · rw [hh.cell, Array.getElem?_eq_getElem]
    · rw [hh.cell, Array.getElem?_eq_getElem]
    · rw [(hh.put _ x).cell, Array.getElem?_setIfInBounds_ne (by simp), Array.getElem?_eq_getElem]
    · exact .inr ⟨g, c, _, rfl, hb', hn, (hh.put (k * 2) x).put (k * 2 + 1) y, by simpa using hc⟩

theorem tk_len (W Bn : List Itm) (n : Int) : (W.drop (tkM W Bn n)).length + (tkB W Bn n).length = W.length + Bn.length ∧ tkM W Bn n ≤ W.length := by
  unfold tkB
  by_cases h : 0 < Bn.length ∨ n < 1 ∨ W.length = 0
  · have e1 : tkM W Bn n = 0 := by unfold tkM; rw [if_pos h]
    rw [if_pos h, e1]
    simp
  · have hB : ¬ 0 < Bn.length := fun h9 => h (.inl h9)
    have hB0 := len_pos hB
    subst hB0
    have hn : ¬ (n < 1 ∨ W.length = 0) := fun h9 => h (.inr h9)
    obtain ⟨h1, h2, _⟩ := tk_cases W n hn
    rw [if_neg h, List.length_drop, List.length_take]
    simp only [List.length_nil]
    omega

theorem qwait_any (w : World) (base b : Nat) (F : Nat → Prop) (W Bn : List Itm) (p : Int) (h : QR w base b F W Bn p) (hW : W.length ≤ 8796093022207) : Calls Try.prog 23 #[.pointer (some ⟨b, 0, none⟩)] w fun e w' => ∃ v', e = .returned v' ∧ Own w' w.heap.size iT 2 v' W.length (its W) ∧ Below w.heap.size w w' := by
  obtain ⟨wA, wc, bA, bc, c0, c1, c2, c3, f1, f2, f3, hlt, hwc, H⟩ := h.open
  clear h
  go_enter Try.func23, Try.ntmps23
  go_wp2_with fail
  refine (clone_any _ W W.length w.heap.size w H.out.2.1.sl hW (Nat.le_refl _)).mono ?_
  rintro e w1 ⟨v', rfl, ho, hb⟩
  have HO := hide ho
  have HB := hide hb
  clear ho hb
  go_wp2_with fail
  go_ret
  exact ⟨v', rfl, HO.out, HB.out⟩

end Go.Proofs.Ytlaijnabdlidiaa
