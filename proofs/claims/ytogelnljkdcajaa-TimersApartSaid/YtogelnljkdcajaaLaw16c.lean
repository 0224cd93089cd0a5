/- The laws of layer 16: what stands behind a call; a timer that a law takes out, in a variable. -/
import Derived.Test.YtogelnljkdcajaaLaw16a
namespace Go.Proofs.Ytogelnljkdcajaa
open Go.RowKit Go.Sort
set_option linter.unusedVariables false
set_option linter.unusedSimpArgs false

/-- a timer as an argument -/
def TmQ (w : World) (x : TV) : Prop := KeyIn w w.heap.size x ∧ x.kb.length ≤ 140737488355328
/-- blocks of other types than the heap's stand -/
def Kp (w w' : World) : Prop := ∀ g t cs, t ≠ treeT → t ≠ tmT → Blk w g t cs → Blk w' g t cs
theorem Kp.refl (w : World) : Kp w w := fun _ _ _ _ _ h => h
theorem Kp.trans {w w1 w2 : World} (h : Kp w w1) (k : Kp w1 w2) : Kp w w2 := fun g t cs h1 h2 hb => k g t cs h1 h2 (h g t cs h1 h2 hb)
theorem Kp.below {w w' : World} (h : Below w.heap.size w w') : Kp w w' := fun g t cs _ _ hb => hb.below h hb.lt
theorem HR.kp {w0 w w' : World} {hb tb mb : Nat} {lv : Value} {L : List TV} (h : HR w0 w hb tb mb lv L) (hf : Fr (HBk tb mb lv) w w') : Kp w w' := fun g t cs h1 h2 hb => h.keep hf hb h1 h2
theorem Kp.put {w : World} {nb : Nat} {cs : Array Value} (h : Blk w nb tmT cs) (z : TV) : Kp w (put5 w ⟨nb, 0, none⟩ z) := fun g t ds h1 h2 hb =>
  (put5_fr (S := fun j => j = nb) (p := ⟨nb, 0, none⟩) (Fr.refl _ w) rfl z).blk hb (hb.apart h h2)

/-- a heap, and a timer that it had -/
structure Aim (w0 wx : World) (hb tb mb : Nat) (lv : Value) (L : List TV) (z : TV) : Prop where
  hr : HR w0 wx hb tb mb lv L
  key : KeyO wx w0.heap.size z
theorem Aim.below {w0 wx wy : World} {hb tb mb : Nat} {lv : Value} {L : List TV} {z : TV} (h : Aim w0 wx hb tb mb lv L z) (k : Below wx.heap.size wx wy) : Aim w0 wy hb tb mb lv L z := ⟨h.hr.below k, h.key.1.below k, h.key.2⟩
theorem Aim.alloc {w0 wx : World} {hb tb mb : Nat} {lv : Value} {L : List TV} {z : TV} (h : Aim w0 wx hb tb mb lv L z) :
    Aim w0 (wx.alloc (.cells z.cells.toArray tmT)) hb tb mb lv L z ∧ Blk (wx.alloc (.cells z.cells.toArray tmT)) wx.heap.size tmT z.cells.toArray ∧ Kp wx (wx.alloc (.cells z.cells.toArray tmT)) :=
  ⟨h.below ((Below.refl _ _).alloc (Nat.le_refl _) _), Blk.new wx _ _, Kp.below ((Below.refl _ _).alloc (Nat.le_refl _) _)⟩
def zero5 : Array Value := #[.int .i64 0, .slice none 0 0, .int .i64 0, .int .i64 0, .int .i64 0]
theorem Aim.put {w0 wx : World} {hb tb mb nb : Nat} {lv : Value} {L : List TV} {z : TV} (h : Aim w0 wx hb tb mb lv L z) (hn : Blk wx nb tmT zero5) (h0 : w0.heap.size ≤ nb) (hl : lv.ownBlock ≠ some nb) :
    Aim w0 (put5 wx ⟨nb, 0, none⟩ z) hb tb mb lv L z ∧ Blk (put5 wx ⟨nb, 0, none⟩ z) nb tmT z.cells.toArray ∧ Kp wx (put5 wx ⟨nb, 0, none⟩ z) := by
  have hf : Fr (fun j => j = nb) wx (put5 wx ⟨nb, 0, none⟩ z) := put5_fr (S := fun j => j = nb) (p := ⟨nb, 0, none⟩) (Fr.refl _ wx) rfl z
  refine ⟨⟨h.hr.wr hn hf h0 (by decide) (by decide) (by decide) hl, h.key.fr hf (fun g cs hc => hc.apart hn (by decide))⟩, ?_, Kp.put hn z⟩
  unfold put5
  simp only [Nat.zero_add]
  exact ((((hn.put 0 _).put 1 _).put 2 _).put 3 _).put 4 _

/-- behind Cancel, as a law calls it -/
structure CanQ (w0 W X w' : World) (hb tb mb : Nat) (lv lv' : Value) (L L' : List TV) (z : TV) (ok : Bool) (a : Nm) : Prop where
  aim : Aim w0 w' hb tb mb lv' L' z
  kp : Kp W w'
  old : ∀ nb cs, Blk X nb tmT cs → lv.ownBlock ≠ some nb → Blk w' nb tmT cs ∧ lv'.ownBlock ≠ some nb
  sz : W.heap.size ≤ X.heap.size ∧ X.heap.size ≤ w'.heap.size
  lo : w0.heap.size ≤ W.heap.size ∧ ∀ nb, W.heap.size ≤ nb → lv.ownBlock ≠ some nb
  res : (ok = true ∧ z ∈ L ∧ z.nm = a ∧ L.Perm (L' ++ [z])) ∨ (ok = false ∧ z = tz ∧ a ∉ L.map TV.nm ∧ L' = L)
/-- the timer lies in a variable -/
structure CanF (w0 W w' : World) (hb tb mb nb : Nat) (lv' : Value) (L L' : List TV) (z : TV) (ok : Bool) (a : Nm) : Prop where
  aim : Aim w0 w' hb tb mb lv' L' z
  blk : Blk w' nb tmT z.cells.toArray
  kp : Kp W w'
  res : (ok = true ∧ z ∈ L ∧ z.nm = a ∧ L.Perm (L' ++ [z])) ∨ (ok = false ∧ z = tz ∧ a ∉ L.map TV.nm ∧ L' = L)
theorem CanQ.fin_alloc {w0 W X w' : World} {hb tb mb : Nat} {lv lv' : Value} {L L' : List TV} {z : TV} {ok : Bool} {a : Nm} (h : CanQ w0 W X w' hb tb mb lv lv' L L' z ok a) : CanF w0 W (w'.alloc (.cells z.cells.toArray tmT)) hb tb mb w'.heap.size lv' L L' z ok a :=
  ⟨h.aim.alloc.1, h.aim.alloc.2.1, h.kp.trans h.aim.alloc.2.2, h.res⟩
theorem CanQ.fin_put {w0 W X w' : World} {hb tb mb nb : Nat} {lv lv' : Value} {L L' : List TV} {z : TV} {ok : Bool} {a : Nm} (h : CanQ w0 W X w' hb tb mb lv lv' L L' z ok a) (hn : Blk X nb tmT zero5) (h1 : W.heap.size ≤ nb) : CanF w0 W (put5 w' ⟨nb, 0, none⟩ z) hb tb mb nb lv' L L' z ok a := by
  obtain ⟨k1, k2⟩ := h.old nb _ hn (h.lo.2 nb h1)
  obtain ⟨a1, a2, a3⟩ := h.aim.put k1 (Nat.le_trans h.lo.1 h1) k2
  exact ⟨a1, a2, h.kp.trans a3, h.res⟩
theorem can_of {L L' : List TV} {l : List TD} {z : TV} {y : TD} {ok : Bool} (h : (L.map TV.d).Perm (setD l y)) (hnd : (L.map TV.nm).Nodup) (res : (ok = true ∧ z ∈ L ∧ z.nm = y.nm ∧ L.Perm (L' ++ [z])) ∨ (ok = false ∧ z = tz ∧ y.nm ∉ L.map TV.nm ∧ L' = L)) :
    ok = true ∧ z.d = y ∧ L.length = L'.length + 1 ∧ y.nm ∉ L'.map TV.nm := by
  rcases res with ⟨h1, h2, h3, h4⟩ | ⟨h1, h2, h3, h4⟩
  · refine ⟨h1, ?_, ?_, ?_⟩
    · have hm := h.mem_iff.1 (List.mem_map_of_mem (f := TV.d) h2)
      unfold setD at hm
      rcases List.mem_append.1 hm with h9 | h9
      · have h8 := of_decide_eq_true (List.mem_filter.1 h9).2
        exact absurd h3 h8
      · exact List.mem_singleton.1 h9
    · have := h4.length_eq
      simpa using this
    · have hn2 : ((L' ++ [z]).map TV.nm).Nodup := (h4.map TV.nm).nodup_iff.1 hnd
      rw [List.map_append, List.nodup_append] at hn2
      intro hm
      rw [← h3] at hm
      exact hn2.2.2 _ hm z.nm (by simp) rfl
  · exfalso
    refine h3 ?_
    have hm : y ∈ L.map TV.d := h.mem_iff.2 (by unfold setD; simp)
    obtain ⟨v, hv, hd⟩ := List.mem_map.1 hm
    rw [← hd, TV.d_nm]
    exact List.mem_map_of_mem hv
theorem hout_q (a f t x : Int) (A : Option Addr) (c : Nat) (D : List Int) (n B : Nat) (W X : World) (hs : Sl W B (.slice A n c) 1 n (bys D)) (hD : D.length = n) (hn : n ≤ 140737488355328) (hB : B ≤ W.heap.size) (hX : Below W.heap.size W X) :
    Calls Try.prog 10 #[.agg #[.int .i64 a, .slice A n c, .int .i64 f, .int .i64 t, .int .i64 x]] X fun e w' => ∃ uA uc, e = .returned (.agg #[.int .i64 a, .slice uA n uc, .int .i64 f, .int .i64 t, .int .i64 x]) ∧ Below W.heap.size W w' ∧ Sl w' w'.heap.size (.slice uA n uc) 1 n (bys D) ∧ (∀ nb t cs, Blk X nb t cs → Blk w' nb t cs) := by
  refine (out_any a f t x (.slice A n c) D n B X (hs.below (hX.mono hB)) hD hn (Nat.le_trans hB hX.size)).mono ?_
  rintro e w' ⟨u, rfl, ho, hb⟩
  obtain ⟨uA, uc, rfl, _⟩ := ho.sl.form
  exact ⟨uA, uc, rfl, hX.trans (hb.mono hX.size), ho.sl, fun nb t cs hc => hc.below hb hc.lt⟩
theorem hcan_q (w0 W X : World) (hb tb mb n : Nat) (lv : Value) (uA : Option Addr) (uc : Nat) (L : List TV) (D : List Int) (f t x : Int) (h : HR w0 W hb tb mb lv L) (hX : Below W.heap.size W X) (hs : Sl X X.heap.size (.slice uA n uc) 1 n (bys D)) (hD : D.length = n) :
    Calls Try.prog 13 #[.pointer (some ⟨hb, 0, none⟩), .agg #[.slice uA n uc, .int .i64 f, .int .i64 t], .int .i64 x] X fun e w' =>
      ∃ za zA zn zc zb zf zt zw ok lv' L', e = .returned (.tuple #[.agg #[.int .i64 za, .slice zA zn zc, .int .i64 zf, .int .i64 zt, .int .i64 zw], .bool ok]) ∧ CanQ w0 W X w' hb tb mb lv lv' L L' ⟨za, .slice zA zn zc, zb, zf, zt, zw⟩ ok ⟨strOfNums D, f, t, x⟩ := by
  have hlo : w0.heap.size ≤ W.heap.size ∧ ∀ nb, W.heap.size ≤ nb → lv.ownBlock ≠ some nb := ⟨h.bl.size, fun nb h9 e => by have := h.hp.lts nb (.inr (.inr e)); omega⟩
  have hx := h.below hX
  refine (hcan_out w0 W X hb tb mb n lv uA uc L D f t x h hs hX hD).mono ?_
  rintro e w' ⟨lv', hf, hn, hc⟩
  have hold : ∀ nb cs, Blk X nb tmT cs → lv.ownBlock ≠ some nb → Blk w' nb tmT cs ∧ lv'.ownBlock ≠ some nb := by
    intro nb cs hb9 h9
    refine ⟨hf.blk hb9 (hx.hp.nwr hb9 (by decide) h9), fun e9 => ?_⟩
    rcases hn nb e9 with h8 | h8
    · exact h9 h8
    · have := hb9.lt; omega
  have hkp : Kp W w' := (Kp.below hX).trans (hx.kp hf)
  rcases hc with ⟨h1, h2, h3⟩ | ⟨z, L', h1, h2, h3, h4, h5, h6⟩
  · exact ⟨0, none, 0, 0, [], 0, 0, 0, false, lv', L, h2, ⟨h3, Own.nil _ _ _ _, fun c hc => (by cases hc), by simp⟩, hkp, hold, ⟨hX.size, hf.size⟩, hlo, .inr ⟨rfl, rfl, h1, rfl⟩⟩
  · obtain ⟨zA, zc, hz, _⟩ := h5.1.sl.form
    obtain ⟨za, zk, zb, zf, zt, zw⟩ := z
    simp only at hz
    subst hz
    exact ⟨za, zA, zb.length, zc, zb, zf, zt, zw, true, lv', L', h3, ⟨h4, h5⟩, hkp, hold, ⟨hX.size, hf.size⟩, hlo, .inl ⟨rfl, h1, h2, h6⟩⟩

end Go.Proofs.Ytogelnljkdcajaa
