/- cells.Table: Keys. -/
import Derived.Test.YtkobaidamdffmaaQCellsDecodes05
import Derived.Test.YtkobaidamdffmaaQCellsDecodes03

namespace Go.Proofs.Ytkobaidamdffmaa
open Go.RowKit Go.Sort
set_option linter.unusedVariables false
set_option linter.unusedSimpArgs false

/-- a key in memory -/
structure KV where
  v : Value
  p : PK
def KV.cells (k : KV) : List Value := [k.v, .int .i64 k.p.f, .int .i64 k.p.t]
theorem KV.cells3 (k : KV) : k.cells.length = 3 := rfl
def kvs (D : List KV) : List Value := D.flatMap KV.cells
theorem kvs_app (C D : List KV) : kvs (C ++ D) = kvs C ++ kvs D := List.flatMap_append ..
theorem kvs_len (D : List KV) : (kvs D).length = D.length * 3 := flat_len _ 3 KV.cells3 D
abbrev ksT : Nat := 46
theorem tyK : SlTy Try.prog ksT keyT 3 40 (.agg #[.slice none 0 0, .int .i64 0, .int .i64 0]) := ⟨Try.underlying46, info_parts (by kernel_rfl), rfl, by omega⟩
theorem kvs_ok (D : List KV) (h : ∀ k ∈ D, k.v.oneCell' = true) : ∀ u ∈ kvs D, u.oneCell' = true := by
  intro u hu
  simp only [kvs, List.mem_flatMap] at hu
  obtain ⟨k, hk, hp⟩ := hu
  simp only [KV.cells, List.mem_cons, List.not_mem_nil, or_false] at hp
  rcases hp with rfl | rfl | rfl
  · exact h k hk
  · rfl
  · rfl
theorem pl_at {w : World} {B n c : Nat} {A : Option Addr} {D : List PK} (h : Sl w B (.slice A n c) 3 n (pls D)) {k : Nat} (hk : k < n) (hD : D.length = n) :
    ∃ ad, A = some ad ∧ (ad.add (k * 3)).block < B ∧ w.cell? (ad.add (k * 3)) = some (.string (strOfNums (D[k]'(by omega)).b)) ∧ w.cell? ⟨(ad.add (k * 3)).block, (ad.add (k * 3)).off + 1, none⟩ = some (.int .i64 (D[k]'(by omega)).f) ∧ w.cell? ⟨(ad.add (k * 3)).block, (ad.add (k * 3)).off + 2, none⟩ = some (.int .i64 (D[k]'(by omega)).t) := by
  obtain ⟨ad, rfl, hb, hh⟩ := h.at_ hk
  rw [pls, part_of PK.cells 3 (fun _ => rfl) D k (by omega)] at hh
  refine ⟨ad, rfl, by rw [add_blk]; exact hb, ?_, ?_, ?_⟩
  · have := hh 0 _ rfl
    rwa [add_add'] at this
  · have := hh 1 _ rfl
    rw [add_add', add_fld ad (k * 3) 1 (by omega)] at this
    exact this
  · have := hh 2 _ rfl
    rw [add_add', add_fld ad (k * 3) 2 (by omega)] at this
    exact this
theorem kv_at {w : World} {B n c : Nat} {A : Option Addr} {D : List KV} (h : Sl w B (.slice A n c) 3 n (kvs D)) {k : Nat} (hk : k < n) (hD : D.length = n) :
    ∃ ad, A = some ad ∧ (ad.add (k * 3)).block < B ∧ w.cell? (ad.add (k * 3)) = some (D[k]'(by omega)).v ∧ w.cell? ⟨(ad.add (k * 3)).block, (ad.add (k * 3)).off + 1, none⟩ = some (.int .i64 (D[k]'(by omega)).p.f) ∧ w.cell? ⟨(ad.add (k * 3)).block, (ad.add (k * 3)).off + 2, none⟩ = some (.int .i64 (D[k]'(by omega)).p.t) := by
  obtain ⟨ad, rfl, hb, hh⟩ := h.at_ hk
  rw [kvs, part_of KV.cells 3 (fun _ => rfl) D k (by omega)] at hh
  refine ⟨ad, rfl, by rw [add_blk]; exact hb, ?_, ?_, ?_⟩
  · have := hh 0 _ rfl
    rwa [add_add'] at this
  · have := hh 1 _ rfl
    rw [add_add', add_fld ad (k * 3) 1 (by omega)] at this
    exact this
  · have := hh 2 _ rfl
    rw [add_add', add_fld ad (k * 3) 2 (by omega)] at this
    exact this
/-- a key's bytes -/
def KyO (w : World) (base : Nat) (k : KV) : Prop := RoB w base k.v k.p.b

/-- while the keys are collected -/
structure KysI (w wr : World) (E : List PK) (k : Nat) (O : List KV) (v : Value) : Prop where
  own : Go.Proofs.Ytkobaidamdffmaa.Own wr w.heap.size keyT 3 v O.length (kvs O)
  ky : ∀ x ∈ O, KyO wr w.heap.size x
  eq : O.map KV.p = E.take k
  bl : Below w.heap.size w wr
theorem KysI.below {w wr wz : World} {E : List PK} {k : Nat} {O : List KV} {v : Value} (h : KysI w wr E k O v) (b : Below wr.heap.size wr wz) : KysI w wz E k O v :=
  ⟨h.own.below b, fun x hx => (h.ky x hx).below b, h.eq, h.bl.trans (b.mono h.bl.size)⟩
theorem KysI.app {w wr wz : World} {E : List PK} {k : Nat} {O : List KV} {v v' : Value} {x : KV} (h : KysI w wr E k O v) (hk : k < E.length) (hx : KyO wr w.heap.size x) (hd : x.p = E[k]) (ha : App wr w.heap.size keyT 3 v (O.length + 1) (kvs O ++ kvs [x]) v' wz) : KysI w wz E (k + 1) (O ++ [x]) v' := by
  have hbt : ∀ g cs fr, wr.heap[g]? = some (.cells cs bT fr) → ¬ v.ownBlock = some g := fun g cs fr hc e => by
    obtain ⟨c2, k2⟩ := h.own.typed g e
    unfold Blk at k2
    rw [k2] at hc
    injection hc with hc
    injection hc with _ hc
    exact absurd hc (by decide)
  refine ⟨?_, fun y hy => ?_, ?_, h.bl.trans (ha.fr.below h.bl.size (fun j hj e => ?_))⟩
  · rw [kvs_app, List.length_append]; exact ha.own
  · rcases List.mem_append.1 hy with h9 | h9
    · exact (h.ky y h9).fr ha.fr hbt
    · rw [List.mem_singleton.1 h9]; exact RoB.fr hx ha.fr hbt
  · rw [List.take_succ_eq_append_getElem hk, List.map_append, h.eq]
    simp [hd]
  · have := (h.own.lt j e).1; omega

/-- a table's keys in memory, in order -/
structure KysP (w : World) (L : List (PK × CV)) (A : Option Addr) (c : Nat) (O : List KV) (w' : World) : Prop where
  own : Go.Proofs.Ytkobaidamdffmaa.Own w' w.heap.size keyT 3 (.slice A O.length c) O.length (kvs O)
  ky : ∀ x ∈ O, KyO w' w.heap.size x
  pm : (O.map KV.p).Perm (L.map (·.1))
  so : (O.map KV.p).Pairwise leP
  bl : Below w.heap.size w w'

set_option maxRecDepth 100000 in
set_option maxHeartbeats 4000000 in
theorem ckeys_any (w : World) (base tb cb : Nat) (wm fm : Option Nat) (bg : Bool) (L W : List (PK × CV)) (F : List (PK × Int)) (h : TabS w base tb cb wm fm bg L W F) (hL : L.length ≤ 1000000) :
    Calls Try.prog 13 #[.pointer (some ⟨tb, 0, none⟩)] w fun e w' => ∃ (A : Option Addr) (c : Nat) (O : List KV), e = .returned (.slice A O.length c) ∧ KysP w L A c O w' := by
  have HPL := hide (places_any w base tb cb wm fm bg L W F h hL)
  clear h
  go_enter Try.func13, Try.ntmps13
  go_wp2_with fail
  refine HPL.out.mono ?_
  clear HPL
  rintro e w1 ⟨v, E, rfl, hp⟩
  obtain ⟨eA, ec, rfl, hec⟩ := hp.own.sl.form
  obtain ⟨n, hn⟩ : ∃ n, n = E.length := ⟨_, rfl⟩
  have HN := hide hn
  have hln : n ≤ 1000000 := by have := hp.pm.length_eq; simp at this; omega
  have HS : Hid (Go.Proofs.Ytkobaidamdffmaa.Own w1 w.heap.size plT 3 (.slice eA n ec) n (pls E)) := by rw [hn]; exact hp.own
  have HPP : Hid (E.Perm (L.map (·.1)) ∧ E.Pairwise leP) := ⟨hp.pm, hp.so⟩
  have HI0 : Hid (KysI w w1 E 0 [] (.slice none 0 0)) := ⟨Own.nil _ _ _ _, (fun x hx => by cases hx), rfl, hp.bl⟩
  rw [← hn] at hec ⊢
  clear hp hn
  go_wp2_with fail
  go_loopw [3, 9] (fun v i wr => ∃ (k : Nat) (O : List KV), k ≤ n ∧ i = .int .i64 k ∧ O.length = k ∧ Hid (KysI w wr E k O v ∧ Go.Proofs.Ytkobaidamdffmaa.Own wr w.heap.size plT 3 (.slice eA n ec) n (pls E))) (fun _ i _ => n - (intOf i).toNat)
  case atStart => exact ⟨0, [], Nat.zero_le _, rfl, rfl, HI0.out, HS.out⟩
  case round =>
    obtain ⟨k, O, hk, rfl, rfl, HI⟩ := hrel
    by_cases hlt : O.length < n
    · have hkE : O.length < E.length := by rw [← HN.out]; exact hlt
      obtain ⟨ad, rfl, hab, a0, a1, a2⟩ := pl_at HI.out.2.sl hlt HN.out.symm
      have hab2 : (ad.add (O.length * 3)).block < wr.heap.size := hab
      obtain ⟨oA, oc, rfl, hoc⟩ := HI.out.1.own.sl.form
      obtain ⟨p, hp⟩ : ∃ p, p = E[O.length] := ⟨_, rfl⟩
      have HP := hide hp
      rw [← hp] at a0 a1 a2
      clear hp
      go_upto_region 5 with fail
      have HI2 : Hid (KysI w (wr.alloc (.cells #[.string (strOfNums p.b), .int .i64 p.f, .int .i64 p.t] plT)) E O.length O (.slice oA O.length oc) ∧ Go.Proofs.Ytkobaidamdffmaa.Own (wr.alloc (.cells #[.string (strOfNums p.b), .int .i64 p.f, .int .i64 p.t] plT)) w.heap.size plT 3 (.slice (some ad) n ec) n (pls E)) := ⟨HI.out.1.below ((Below.refl _ _).alloc (Nat.le_refl _) _), HI.out.2.alloc _⟩
      have HB2 : Hid (Blk (wr.alloc (.cells #[.string (strOfNums p.b), .int .i64 p.f, .int .i64 p.t] plT)) wr.heap.size plT #[.string (strOfNums p.b), .int .i64 p.f, .int .i64 p.t]) := Blk.new wr _ _
      change Code.wp _ _ _ _ (wr.alloc (.cells #[.string (strOfNums p.b), .int .i64 p.f, .int .i64 p.t] plT))
      generalize wr.alloc (.cells #[.string (strOfNums p.b), .int .i64 p.f, .int .i64 p.t] plT) = w2 at *
      obtain ⟨pb, hpb⟩ : ∃ pb, pb = wr.heap.size := ⟨_, rfl⟩
      rw [← hpb] at HB2 ⊢
      clear hpb a0 a1 a2 hab hab2 HI
      obtain ⟨cap, w3, hcv, hrb, hb3⟩ := conv_any w2 p.b p.ok.1 (Nat.le_trans p.ok.2.1 (by decide))
      have HR3 := hide (hrb.lower HI2.out.1.bl.size)
      have HI3 : Hid (KysI w w3 E O.length O (.slice oA O.length oc) ∧ Go.Proofs.Ytkobaidamdffmaa.Own w3 w.heap.size plT 3 (.slice (some ad) n ec) n (pls E)) := ⟨HI2.out.1.below hb3, HI2.out.2.below hb3⟩
      have HB3 := hide (HB2.out.below hb3 HB2.out.lt)
      have b0 : w2.cell? ⟨pb, 0, none⟩ = some (.string (strOfNums p.b)) := HB2.out.cell 0
      have b1 : w3.cell? ⟨pb, 1, none⟩ = some (.int .i64 p.f) := HB3.out.cell 1
      have b2 : w3.cell? ⟨pb, 2, none⟩ = some (.int .i64 p.t) := HB3.out.cell 2
      have hbl := HB2.out.lt
      have hbl3 := HB3.out.lt
      obtain ⟨kg, hkg⟩ : ∃ kg, kg = w2.heap.size := ⟨_, rfl⟩
      rw [← hkg] at hcv HR3
      clear hrb hb3 hkg
      have hz3 := HI3.out.1.bl.size
      obtain ⟨kn, hkn⟩ : ∃ kn, kn = p.b.length := ⟨_, rfl⟩
      rw [← hkn] at hcv HR3
      clear hkn
      have HSL : Hid (∀ W : World, Sl (W.alloc (.cells #[.slice (some ⟨kg, 0, none⟩) kn cap, .int .i64 p.f, .int .i64 p.t] keyT)) (W.heap.size + 1) (.slice (some ⟨W.heap.size, 0, none⟩) 1 1) 3 1 (kvs [⟨.slice (some ⟨kg, 0, none⟩) kn cap, p⟩])) := fun W =>
        Sl.of_own (Own.new (n := 1) (sz := 3) (e := keyT) (base := 0) W #[.slice (some ⟨kg, 0, none⟩) kn cap, .int .i64 p.f, .int .i64 p.t] (by omega) (by omega) rfl) |>.mono (by simp)
      have HI4 : Hid (∀ cs, KysI w (w3.alloc (.cells cs keyT)) E O.length O (.slice oA O.length oc) ∧ Go.Proofs.Ytkobaidamdffmaa.Own (w3.alloc (.cells cs keyT)) w.heap.size plT 3 (.slice (some ad) n ec) n (pls E) ∧ KyO (w3.alloc (.cells cs keyT)) w.heap.size ⟨.slice (some ⟨kg, 0, none⟩) kn cap, p⟩) := fun cs =>
        ⟨HI3.out.1.below ((Below.refl _ _).alloc (Nat.le_refl _) _), HI3.out.2.alloc _, RoB.below HR3.out ((Below.refl _ _).alloc (Nat.le_refl _) _)⟩
      go_wp2_with (at_builtin; refine wpList_app rfl tyK (.tmp 13) (.tmp 20) rfl w.heap.size (n := O.length) (m := 1) (B := w3.heap.size + 1) (xs := kvs O) (news := kvs [⟨.slice (some ⟨kg, 0, none⟩) kn cap, p⟩]) rfl rfl (by exact (HI4.out _).1.own) (by exact HSL.out w3) (kvs_ok _ (by intro u hu; simp only [List.mem_singleton] at hu; subst hu; rfl)) (by omega) (by omega) (by simp; omega) ?_)
      intro v5 w5 ha5
      have hq := HI4.out #[.slice (some ⟨kg, 0, none⟩) kn cap, .int .i64 p.f, .int .i64 p.t]
      have HI5 : Hid (KysI w w5 E (O.length + 1) (O ++ [⟨.slice (some ⟨kg, 0, none⟩) kn cap, p⟩]) v5 ∧ Go.Proofs.Ytkobaidamdffmaa.Own w5 w.heap.size plT 3 (.slice (some ad) n ec) n (pls E)) := ⟨hq.1.app hkE hq.2.2 HP.out ha5, hq.2.1.fr ha5.fr (fun g hg e => by obtain ⟨c2, k2⟩ := hq.2.1.typed g hg; exact hq.1.own.ne k2 (by decide) e)⟩
      clear hq
      clear ha5 HI4 HSL
      go_wp2_with fail
      go_roundw
      case rel => exact ⟨O.length + 1, _, by omega, by simp, by simp, HI5.out⟩
      case measure => simp [intOf]; omega
    · have HE : Hid (O.map KV.p = E) := by rw [Hid, HI.out.1.eq, List.take_of_length_le (by rw [← HN.out]; omega)]
      obtain ⟨oA, oc, rfl, hoc⟩ := HI.out.1.own.sl.form
      have HR : Hid (KysP w L oA oc O wr) := ⟨HI.out.1.own, HI.out.1.ky, by rw [HE.out]; exact HPP.out.1, by rw [HE.out]; exact HPP.out.2, HI.out.1.bl⟩
      go_wp2_with fail
      go_ret
      exact ⟨oA, oc, O, rfl, HR.out⟩

end Go.Proofs.Ytkobaidamdffmaa
