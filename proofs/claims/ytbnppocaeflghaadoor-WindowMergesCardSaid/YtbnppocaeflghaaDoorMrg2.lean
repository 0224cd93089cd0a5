/- The reference's Merge: again and again two windows that have a time in common are made one. -/
import Derived.Test.YtbnppocaeflghaaDoorMrg1
import Derived.Deep.CutRange
import Derived.BigRegion
import Derived.RegionTactic
namespace Go.Proofs.YtbnppocaeflghaaDoor
open Go.RowKit Go.Sort
set_option linter.unusedVariables false
set_option linter.unusedSimpArgs false

/-- they have no time in common -/
def Ap (x y : Win) : Prop := y.t ≤ x.f ∨ x.t ≤ y.f
def ApTo (S : List Win) (q : Nat) : Prop := ∀ a b x y, a < b → b < q → S[a]? = some x → S[b]? = some y → Ap x y
def ApIn (S : List Win) (q k : Nat) : Prop := ∀ a x y, a < k → S[a]? = some x → S[q]? = some y → Ap x y
theorem apTo_succ {S : List Win} {q : Nat} (h : ApTo S q) (h2 : ApIn S q q) : ApTo S (q + 1) := by
  intro a b x y h3 h4 h5 h6
  by_cases h7 : b < q
  · exact h a b x y h3 h7 h5 h6
  · obtain rfl : b = q := by omega
    exact h2 a x y h3 h5 h6
theorem apIn_succ {S : List Win} {q k : Nat} {x y : Win} (h : ApIn S q k) (hx : S[k]? = some x) (hy : S[q]? = some y) (h2 : Ap x y) : ApIn S q (k + 1) := by
  intro a x' y' h3 h5 h6
  by_cases h7 : a < k
  · exact h a x' y' h7 h5 h6
  · obtain rfl : a = k := by omega
    rw [hx] at h5
    rw [hy] at h6
    cases h5
    cases h6
    exact h2
theorem sep_of {S : List Win} (ho : InO S) (hg : ∀ x ∈ S, x.f < x.t) (ha : ApTo S S.length) : Sep S := by
  refine ⟨List.pairwise_iff_getElem.2 fun i j hi hj hij => ?_, hg⟩
  have h1 := List.pairwise_iff_getElem.1 ho i j hi hj hij
  have h2 := ha i j S[i] S[j] hij hj (List.getElem?_eq_getElem hi) (List.getElem?_eq_getElem hj)
  have h3 := hg S[i] (List.getElem_mem hi)
  have h4 := hg S[j] (List.getElem_mem hj)
  unfold wlt at h1
  unfold Ap at h2
  omega

/-- S's first j without those at i and k -/
def wo (S : List Win) (i k : Nat) : Nat → List Win
  | 0 => []
  | j + 1 => if j = i ∨ j = k then wo S i k j else wo S i k j ++ S[j]?.toList
theorem wo_mem (S : List Win) (i k : Nat) (x : Win) : ∀ j, x ∈ wo S i k j ↔ ∃ a, a < j ∧ a ≠ i ∧ a ≠ k ∧ S[a]? = some x := by
  intro j
  induction j with
  | zero => simp [wo]
  | succ j ih =>
    unfold wo
    split
    · rename_i h
      rw [ih]
      constructor
      · rintro ⟨a, h1, h2⟩; exact ⟨a, by omega, h2⟩
      · rintro ⟨a, h1, h2⟩
        exact ⟨a, by rcases h with rfl | rfl <;> omega, h2⟩
    · rename_i h
      rw [List.mem_append, ih]
      constructor
      · rintro (⟨a, h1, h2⟩ | h9)
        · exact ⟨a, by omega, h2⟩
        · exact ⟨j, by omega, fun e => h (.inl e), fun e => h (.inr e), by simpa using h9⟩
      · rintro ⟨a, h1, h2, h3, h4⟩
        by_cases h5 : a < j
        · exact .inl ⟨a, h5, h2, h3, h4⟩
        · obtain rfl : a = j := by omega
          exact .inr (by simpa using h4)
theorem wo_len (S : List Win) (i k : Nat) (h : k ≠ i) : ∀ j, (wo S i k j).length + (if i < j then 1 else 0) + (if k < j then 1 else 0) ≤ j := by
  intro j
  induction j with
  | zero => simp [wo]
  | succ j ih =>
    unfold wo
    split
    · rename_i h9
      rcases h9 with rfl | rfl
      · simp only [Nat.lt_irrefl, if_false, Nat.lt_succ_self, if_true] at ih ⊢
        split <;> split at ih <;> omega
      · simp only [Nat.lt_irrefl, if_false, Nat.lt_succ_self, if_true] at ih ⊢
        split <;> split at ih <;> omega
    · rename_i h9
      rw [List.length_append]
      have : (S[j]?.toList).length ≤ 1 := by cases S[j]? <;> simp
      have h1 : ¬ j = i := fun e => h9 (.inl e)
      have h2 : ¬ j = k := fun e => h9 (.inr e)
      split <;> split <;> split at ih <;> split at ih <;> omega
def joinW (a b : Win) : Win := ⟨if b.f < a.f then b.f else a.f, if b.t > a.t then b.t else a.t⟩
theorem join_cov {S : List Win} {i k : Nat} {a b : Win} (hk : S[k]? = some a) (hi : S[i]? = some b) (ha : a.f < a.t) (hb : b.f < b.t) (hn : ¬ Ap a b) (y : Int) : Cov (wo S i k S.length ++ [joinW a b]) y ↔ Cov S y := by
  have hj : ∀ y, (2 * (joinW a b).f < y ∧ y < 2 * (joinW a b).t) ↔ ((2 * a.f < y ∧ y < 2 * a.t) ∨ (2 * b.f < y ∧ y < 2 * b.t)) := by
    intro y
    unfold joinW
    unfold Ap at hn
    simp only
    split <;> split <;> omega
  rw [cov_app, cov_one, hj]
  constructor
  · rintro (⟨x, hx, h⟩ | h | h)
    · obtain ⟨j, _, _, _, h4⟩ := (wo_mem S i k x _).1 hx
      exact ⟨x, List.mem_of_getElem? h4, h⟩
    · exact ⟨a, List.mem_of_getElem? hk, h⟩
    · exact ⟨b, List.mem_of_getElem? hi, h⟩
  · rintro ⟨x, hx, h⟩
    obtain ⟨j, hj2, rfl⟩ := List.getElem_of_mem hx
    by_cases h1 : j = i
    · subst h1
      rw [List.getElem?_eq_getElem hj2] at hi
      cases hi
      exact .inr (.inr h)
    · by_cases h2 : j = k
      · subst h2
        rw [List.getElem?_eq_getElem hj2] at hk
        cases hk
        exact .inr (.inl h)
      · exact .inl ⟨_, (wo_mem S i k _ _).2 ⟨j, hj2, h1, h2, List.getElem?_eq_getElem hj2⟩, h⟩
theorem join_good {S : List Win} {i k : Nat} {a b : Win} (hg : ∀ x ∈ S, x.f < x.t) (ha : a.f < a.t) (hb : b.f < b.t) : ∀ x ∈ wo S i k S.length ++ [joinW a b], x.f < x.t := by
  intro x hx
  rcases List.mem_append.1 hx with h | h
  · obtain ⟨j, _, _, _, h4⟩ := (wo_mem S i k x _).1 h
    exact hg x (List.mem_of_getElem? h4)
  · rw [List.mem_singleton.1 h]
    unfold joinW
    simp only
    split <;> split <;> omega

theorem blk_two (w : World) (t : TypeId) (a b : Array Value) : Blk ((w.alloc (.cells a t)).alloc (.cells b t)).drew w.heap.size t a ∧ Blk ((w.alloc (.cells a t)).alloc (.cells b t)).drew (w.heap.size + 1) t b ∧ ∀ B w0, Below B w0 w → B ≤ w.heap.size → Below B w0 ((w.alloc (.cells a t)).alloc (.cells b t)).drew := by
  refine ⟨((Blk.new w t a).alloc _).drew, ?_, fun B w0 h hB => ((h.alloc hB _).alloc (by simp; omega) _).drewN 1⟩
  have h9 := Blk.new (w.alloc (.cells a t)) t b
  simp at h9
  exact h9.drew

/-- while two windows a, b are made one -/
structure JS (wz wc : World) (pa pb pc base : Nat) (a b : Win) (f t : Int) (o : Value) (m : Nat) (R : List Win) : Prop where
  ba : Blk wz pa rT #[.int .i64 a.f, .int .i64 a.t]
  bb : Blk wz pb rT #[.int .i64 b.f, .int .i64 b.t]
  bc : Blk wz pc rT #[.int .i64 f, .int .i64 t]
  own : Own wz base rT 2 o m (wins R)
  bel : Below base wc wz
  ac : pa < pc
  bc' : pb < pc
  oc : ∀ g, o.ownBlock = some g → g < pc
  bs : base ≤ pc
theorem JS.put0 {wz wc : World} {pa pb pc base m : Nat} {a b : Win} {f t : Int} {o : Value} {R : List Win} (h : JS wz wc pa pb pc base a b f t o m R) (x : Int) : JS (wz.setCell ⟨pc, 0, none⟩ (.int .i64 x)) wc pa pb pc base a b x t o m R :=
  ⟨h.ba.far (by have := h.ac; simp; omega) _, h.bb.far (by have := h.bc'; simp; omega) _, h.bc.put 0 _, h.own.put (p := ⟨pc, 0, none⟩) (fun e => by have := h.oc _ e; simp at this) _,
   h.bel.trans (Fr.below (S := fun k => k = pc) (Fr.put1 (Fr.refl _ wz) 0 _) (by have := h.bc.lt; have := h.bs; omega) (fun k hk e => by have := h.bs; omega)), h.ac, h.bc', h.oc, h.bs⟩
theorem JS.put1 {wz wc : World} {pa pb pc base m : Nat} {a b : Win} {f t : Int} {o : Value} {R : List Win} (h : JS wz wc pa pb pc base a b f t o m R) (x : Int) : JS (wz.setCell ⟨pc, 1, none⟩ (.int .i64 x)) wc pa pb pc base a b f x o m R :=
  ⟨h.ba.far (by have := h.ac; simp; omega) _, h.bb.far (by have := h.bc'; simp; omega) _, h.bc.put 1 _, h.own.put (p := ⟨pc, 1, none⟩) (fun e => by have := h.oc _ e; simp at this) _,
   h.bel.trans (Fr.below (S := fun k => k = pc) (Fr.put1 (Fr.refl _ wz) 1 _) (by have := h.bc.lt; have := h.bs; omega) (fun k hk e => by have := h.bs; omega)), h.ac, h.bc', h.oc, h.bs⟩

set_option maxRecDepth 100000 in
set_option maxHeartbeats 16000000 in
theorem rmerge_any : ∀ (n : Nat) (v : Value) (D : List Win) (B : Nat) (w : World), n ≤ 1000 → Sl w B v 2 n (wins D) → D.length = n → B ≤ w.heap.size → (∀ x ∈ D, x.f < x.t) →
    Calls Tryd.prog 25 #[v] w fun e w' => ∃ u M m, e = .returned u ∧ M.length = m ∧ m ≤ n ∧ Sep M ∧ (∀ y, Cov M y ↔ Cov D y) ∧ Own w' w.heap.size rT 2 u m (wins M) ∧ Below w.heap.size w w' := by
  intro n
  induction n using Nat.strongRecOn with
  | _ n ih =>
  intro v D B w hn hs hD hB hg
  obtain ⟨A, c, rfl, hc⟩ := hs.form
  have HI := hide ih
  have HC := hide (rsort_any _ D n B w hs hD (by omega) hB)
  obtain ⟨S, hS⟩ : ∃ S, S = sortW D := ⟨_, rfl⟩
  have HSL : Hid (S.length = n) := by show _ = _; rw [hS, sortW_len, hD]
  have HSG : Hid (∀ x ∈ S, x.f < x.t) := fun x hx => hg x ((sortW_perm D).mem_iff.1 (by rw [← hS]; exact hx))
  have HSO : Hid (InO S) := by rw [hS]; exact sortW_ord D
  have HCV : Hid (∀ y, Cov S y ↔ Cov D y) := fun y => by rw [hS]; exact cov_perm (sortW_perm D) y
  rw [← hS] at HC
  clear ih hg hs hD hS
  go_enter Tryd.func25, Tryd.ntmps25
  go_wp2_with fail
  refine HC.out.mono ?_
  rintro e w1 ⟨u, rfl, ho, hb⟩
  have HO := hide ho
  have HB := hide hb
  have hz1 := hb.size
  clear ho hb HC
  obtain ⟨sA, sc, rfl, hsc⟩ := HO.out.sl.form
  go_wp2_with fail
  go_loopw [3] (fun i wr => ∃ q : Nat, q ≤ n ∧ i = .int .i64 q ∧ Hid (ApTo S q) ∧ Hid (Below w1.heap.size w1 wr)) (fun i _ => n - (intOf i).toNat)
  case atStart => exact ⟨0, Nat.zero_le _, rfl, (fun a b x y h1 h2 => by omega), Below.refl _ _⟩
  case round =>
    obtain ⟨q, hq, rfl, HAT, HBr⟩ := hrel
    have hzr := HBr.out.size
    by_cases hlt : q < n
    · have hqS : q < S.length := by rw [HSL.out]; exact hlt
      have HQ : Hid (S[q]? = some S[q]) := List.getElem?_eq_getElem hqS
      have HQG := hide (HSG.out S[q] (List.getElem_mem hqS))
      obtain ⟨ad, rfl, hab0, p0, p1⟩ := win_at HO.out.sl hlt HSL.out
      generalize S[q] = y at HQ HQG p0 p1
      obtain ⟨yf, yt⟩ := y
      simp only at p0 p1
      have HPP : Hid (w1.cell? (ad.add (q * 2)) = some (.int .i64 yf) ∧ w1.cell? ⟨(ad.add (q * 2)).block, (ad.add (q * 2)).off + 1, none⟩ = some (.int .i64 yt)) := ⟨p0, p1⟩
      clear p0 p1
      go_wp2_with fail
      go_loopw [4] (fun i wz => ∃ k : Nat, k ≤ q ∧ i = .int .i64 k ∧ Hid (ApIn S q k) ∧ Hid (Below w1.heap.size w1 wz)) (fun i _ => q - (intOf i).toNat)
      case atStart => exact ⟨0, Nat.zero_le _, rfl, (fun a x y h1 => by omega), HBr.out⟩
      case round =>
        obtain ⟨k, hk, rfl, HAI, HBk⟩ := hrel
        have hzk := HBk.out.size
        by_cases hlk : k < q
        · have hkS : k < S.length := by rw [HSL.out]; omega
          have HK : Hid (S[k]? = some S[k]) := List.getElem?_eq_getElem hkS
          have HKG := hide (HSG.out S[k] (List.getElem_mem hkS))
          obtain ⟨ad2, hA2, hab1, g0, g1⟩ := win_at (HO.out.sl.below HBk.out) (show k < n by omega) HSL.out
          injection hA2 with hA2
          subst hA2
          generalize S[k] = x at HK HKG g0 g1
          obtain ⟨xf, xt⟩ := x
          simp only at g0 g1
          have p0 : wr.cell? (ad.add (q * 2)) = some (.int .i64 yf) := (HBk.out.cell (p := ad.add (q * 2)) hab0).trans HPP.out.1
          have p1 : wr.cell? ⟨(ad.add (q * 2)).block, (ad.add (q * 2)).off + 1, none⟩ = some (.int .i64 yt) := (HBk.out.cell (p := ⟨(ad.add (q * 2)).block, (ad.add (q * 2)).off + 1, none⟩) hab0).trans HPP.out.2
          have hb1 : (ad.add (k * 2)).block < wr.heap.size := by omega
          have hb2 : (ad.add (q * 2)).block < wr.heap.size := by omega
          have i1 : (0 : Int) ≤ (k : Int) := by omega
          have i2 : (k : Int) < (n : Int) := by omega
          have i3 : (0 : Int) ≤ (q : Int) := by omega
          have i4 : (q : Int) < (n : Int) := by omega
          go_upto_region 8 with fail
          go_cut [5, 6] from 18 to 89 (fun a b wz => ∃ pa pb, a = .pointer (some ⟨pa, 0, none⟩) ∧ b = .pointer (some ⟨pb, 0, none⟩) ∧ Hid (Blk wz pa rT #[.int .i64 xf, .int .i64 xt]) ∧ Hid (Blk wz pb rT #[.int .i64 yf, .int .i64 yt]) ∧ Hid (Below w1.heap.size w1 wz))
          case first =>
            clear HI HSG HSO HCV HAT HAI
            go_region
            all_goals
              go_wp2_with fail
              go_meet
              case rel => first
                | exact ⟨_, _, rfl, rfl, (blk_two _ _ _ _).1, (blk_two _ _ _ _).2.1, (blk_two _ _ _ _).2.2 _ _ HBk.out HBk.out.size⟩
                | exact ⟨_, _, rfl, rfl, (blk_two _ _ _ _).2.1, (blk_two _ _ _ _).1, (blk_two _ _ _ _).2.2 _ _ HBk.out HBk.out.size⟩
          case rest =>
            obtain ⟨pa, pb, rfl, rfl, HPA, HPB, HBc⟩ := hcut
            obtain ⟨w4, hw4⟩ : ∃ w4, w4 = wc := ⟨_, rfl⟩
            subst hw4
            have hzc := HBc.out.size
            obtain ⟨a0, a1, la⟩ := HPA.out.two
            obtain ⟨b0, b1, lb⟩ := HPB.out.two
            clear g0 g1 p0 p1 i1 i2 i3 i4 hb1 hb2
            by_cases h1 : yt ≤ xf
            · have HA2 := hide (apIn_succ HAI.out HK.out HQ.out (.inl h1))
              go_wp2_with fail
              go_roundw
              case rel => exact ⟨k + 1, by omega, by simp, HA2, HBc⟩
              case measure => simp [intOf]; omega
            · by_cases h2 : xt ≤ yf
              · have HA2 := hide (apIn_succ HAI.out HK.out HQ.out (.inr h2))
                go_wp2_with fail
                go_roundw
                case rel => exact ⟨k + 1, by omega, by simp, HA2, HBc⟩
                case measure => simp [intOf]; omega
              · have HNA : Hid (¬ Ap ⟨xf, xt⟩ ⟨yf, yt⟩) := by
                  show ¬ _
                  unfold Ap
                  simp only
                  omega
                go_wp2_with fail
                clear a0 a1 b0 b1 h1 h2 HAT HAI
                go_loopw [7, 8] (fun o i wz => ∃ (j m : Nat), j ≤ n ∧ m ≤ j ∧ i = .int .i64 j ∧ Hid ((wo S q k j).length = m) ∧ Hid (Own wz w4.heap.size rT 2 o m (wins (wo S q k j))) ∧ Hid (Below w4.heap.size w4 wz)) (fun _ i _ => n - (intOf i).toNat)
                case atStart => exact ⟨0, 0, Nat.zero_le _, Nat.le_refl _, rfl, rfl, Own.nil _ _ _ _, Below.refl _ _⟩
                case round =>
                  obtain ⟨j, m, hj, hmj, rfl, HM, HOR, HBj⟩ := hrel
                  obtain ⟨oA, oc, rfl, hoc⟩ := HOR.out.sl.form
                  have hzj := HBj.out.size
                  by_cases hlj : j < n
                  · have hjS : j < S.length := by rw [HSL.out]; exact hlj
                    by_cases hjq : j = q
                    · have HW : Hid (wo S q k (j + 1) = wo S q k j) := by show _ = _; rw [wo, if_pos (.inl hjq)]
                      subst hjq
                      have e1 : ((j : Int) != (j : Int)) = false := by simp
                      go_wp2_with fail
                      go_roundw
                      case rel => exact ⟨j + 1, m, by omega, by omega, by simp, by rw [HW.out]; exact HM, by rw [HW.out]; exact HOR, HBj⟩
                      case measure => simp [intOf]; omega
                    · have e1 : ((j : Int) != (q : Int)) = true := by simp; omega
                      by_cases hjk : j = k
                      · have HW : Hid (wo S q k (j + 1) = wo S q k j) := by show _ = _; rw [wo, if_pos (.inr hjk)]
                        subst hjk
                        have e2 : ((j : Int) != (j : Int)) = false := by simp
                        go_wp2_with fail
                        go_roundw
                        case rel => exact ⟨j + 1, m, by omega, by omega, by simp, by rw [HW.out]; exact HM, by rw [HW.out]; exact HOR, HBj⟩
                        case measure => simp [intOf]; omega
                      · have e2 : ((j : Int) != (k : Int)) = true := by simp; omega
                        have HW : Hid (wo S q k (j + 1) = wo S q k j ++ [S[j]]) := by show _ = _; rw [wo, if_neg (by omega), List.getElem?_eq_getElem hjS]; rfl
                        obtain ⟨ad3, hA3, hab3, g0, g1⟩ := win_at (HO.out.sl.below (HBc.out.trans (HBj.out.mono hzc))) hlj HSL.out
                        injection hA3 with hA3
                        subst hA3
                        generalize S[j] = z at HW g0 g1
                        obtain ⟨zf, zt⟩ := z
                        simp only at g0 g1
                        have hb1 : (ad.add (j * 2)).block < wr.heap.size := by omega
                        have HN : Hid (Sl (wr.alloc (.cells #[.int .i64 zf, .int .i64 zt] rT)) (wr.heap.size + 1) (.slice (some ⟨wr.heap.size, 0, none⟩) 1 1) 2 1 (wins [⟨zf, zt⟩])) := by
                          have h9 := Sl.of_own (Own.new (n := 1) (sz := 2) (e := rT) (base := 0) wr #[.int .i64 zf, .int .i64 zt] (by omega) (by omega) rfl)
                          simp at h9
                          exact h9
                        go_wp2_with (at_builtin; refine wpList_app rfl tyR (.tmp 57) (.tmp 62) rfl w4.heap.size (n := m) (m := 1) (B := wr.heap.size + 1) (xs := wins (wo S q k j)) (news := wins [⟨zf, zt⟩]) rfl rfl (HOR.out.alloc _) HN.out (wins_ok _) (by omega) (by omega) (by simp <;> omega) ?_)
                        intro v2 w9 ha
                        have HO2 : Hid (Own w9 w4.heap.size rT 2 v2 (m + 1) (wins (wo S q k (j + 1)))) := by rw [HW.out, wins_app]; exact ha.own
                        have HB2 := hide ((HBj.out.alloc (o := .cells #[.int .i64 zf, .int .i64 zt] rT) HBj.out.size).trans (ha.fr.below (B := w4.heap.size) (by simp <;> omega) (fun k hk h => by have := ((HOR.out.lt k h).1); omega)))
                        clear ha
                        go_wp2_with fail
                        go_roundw
                        case rel => exact ⟨j + 1, m + 1, by omega, by omega, by simp, by show _ = _; rw [HW.out, List.length_append, HM.out]; rfl, HO2, HB2⟩
                        case measure => simp [intOf]; omega
                  · obtain rfl : j = n := by omega
                    have hkq : k ≠ q := by omega
                    have HML : Hid (m + 2 ≤ j) := by
                      have h9 := wo_len S q k hkq j
                      rw [HM.out, if_pos hlt, if_pos (by omega)] at h9
                      show _ ≤ _
                      omega
                    have HRC : Hid (∀ y, Cov (wo S q k j ++ [joinW ⟨xf, xt⟩ ⟨yf, yt⟩]) y ↔ Cov S y) := by
                      have h9 := join_cov HK.out HQ.out HKG.out HQG.out HNA.out
                      rw [HSL.out] at h9
                      exact h9
                    have HRG : Hid (∀ x ∈ wo S q k j ++ [joinW ⟨xf, xt⟩ ⟨yf, yt⟩], x.f < x.t) := by
                      have h9 := join_good (i := q) (k := k) (a := ⟨xf, xt⟩) (b := ⟨yf, yt⟩) HSG.out HKG.out HQG.out
                      rw [HSL.out] at h9
                      exact h9
                    have HJ : Hid (JS (wr.alloc (.cells #[.int .i64 xf, .int .i64 xt] rT)) w4 pa pb wr.heap.size w4.heap.size ⟨xf, xt⟩ ⟨yf, yt⟩ xf xt (.slice oA m oc) m (wo S q k j)) :=
                      ⟨((HPA.out.below HBj.out la).alloc _), ((HPB.out.below HBj.out lb).alloc _), Blk.new _ _ _, HOR.out.alloc _, HBj.out.alloc hzj _, by omega, by omega, fun g hg => (HOR.out.lt g hg).2, hzj⟩
                    have a0 : wr.cell? ⟨pa, 0, none⟩ = some (.int .i64 xf) := (HPA.out.below HBj.out la).cell 0
                    have a1 : wr.cell? ⟨pa, 1, none⟩ = some (.int .i64 xt) := (HPA.out.below HBj.out la).cell 1
                    have b0 : wr.cell? ⟨pb, 0, none⟩ = some (.int .i64 yf) := (HPB.out.below HBj.out lb).cell 0
                    have b1 : wr.cell? ⟨pb, 1, none⟩ = some (.int .i64 yt) := (HPB.out.below HBj.out lb).cell 1
                    have la2 : pa < wr.heap.size := by omega
                    have lb2 : pb < wr.heap.size := by omega
                    go_upto_if 73 with fail
                    generalize wr.alloc (.cells #[.int .i64 xf, .int .i64 xt] rT) = w5 at *
                    generalize wr.heap.size = pc at *
                    clear a0 a1 b0 b1 la2 lb2
                    go_cut [] from 64 to 89 (fun wz => Hid (JS wz w4 pa pb pc w4.heap.size ⟨xf, xt⟩ ⟨yf, yt⟩ (if yf < xf then yf else xf) xt (.slice oA m oc) m (wo S q k j)))
                    case first =>
                      obtain ⟨b0, b1, lb2⟩ := HJ.out.bb.two
                      obtain ⟨c0, c1, lc2⟩ := HJ.out.bc.two
                      have fz := HJ.out.bc.frozen 0
                      by_cases h1 : yf < xf
                      · have HE : Hid ((if yf < xf then yf else xf) = yf) := by show _ = _; rw [if_pos h1]
                        go_wp2_with fail
                        go_meet
                        case rel => show JS _ _ _ _ _ _ _ _ _ _ _ _ _; rw [HE.out]; exact HJ.out.put0 yf
                      · have HE : Hid ((if yf < xf then yf else xf) = xf) := by show _ = _; rw [if_neg h1]
                        go_wp2_with fail
                        go_meet
                        case rel => show JS _ _ _ _ _ _ _ _ _ _ _ _ _; rw [HE.out]; exact HJ.out
                    case rest =>
                      have HJ1 := hide hcut.out
                      generalize hmf : (if yf < xf then yf else xf) = mf at *
                      have HMF := hide hmf
                      clear hmf HJ hcut
                      obtain ⟨b0, b1, lb2⟩ := HJ1.out.bb.two
                      obtain ⟨c0, c1, lc2⟩ := HJ1.out.bc.two
                      go_upto_if 81 with fail
                      go_cut [] from 64 to 89 (fun wz => Hid (JS wz w4 pa pb pc w4.heap.size ⟨xf, xt⟩ ⟨yf, yt⟩ mf (if yt > xt then yt else xt) (.slice oA m oc) m (wo S q k j)))
                      case first =>
                        have fz := HJ1.out.bc.frozen 1
                        by_cases h1 : xt < yt
                        · have HE : Hid ((if yt > xt then yt else xt) = yt) := by show _ = _; rw [if_pos h1]
                          go_wp2_with fail
                          go_meet
                          case rel => show JS _ _ _ _ _ _ _ _ _ _ _ _ _; rw [HE.out]; exact HJ1.out.put1 yt
                        · have HE : Hid ((if yt > xt then yt else xt) = xt) := by show _ = _; rw [if_neg h1]
                          go_wp2_with fail
                          go_meet
                          case rel => show JS _ _ _ _ _ _ _ _ _ _ _ _ _; rw [HE.out]; exact HJ1.out
                      case rest =>
                        have HJ2 := hide hcut.out
                        generalize hmt : (if yt > xt then yt else xt) = mt at *
                        have HJW : Hid (joinW ⟨xf, xt⟩ ⟨yf, yt⟩ = ⟨mf, mt⟩) := by show _ = _; unfold joinW; simp only [HMF.out, hmt]
                        rw [HJW.out] at HRC HRG
                        clear hmt HJ1 hcut b0 b1 lb2 c0 c1 lc2
                        obtain ⟨c0, c1, lc2⟩ := HJ2.out.bc.two
                        obtain ⟨w7, hw7⟩ : ∃ w7, w7 = wc := ⟨_, rfl⟩
                        subst hw7
                        have hzw := HJ2.out.bel.size
                        have HN : Hid (Sl (w7.alloc (.cells #[.int .i64 mf, .int .i64 mt] rT)) (w7.heap.size + 1) (.slice (some ⟨w7.heap.size, 0, none⟩) 1 1) 2 1 (wins [⟨mf, mt⟩])) := by
                          have h9 := Sl.of_own (Own.new (n := 1) (sz := 2) (e := rT) (base := 0) w7 #[.int .i64 mf, .int .i64 mt] (by omega) (by omega) rfl)
                          simp at h9
                          exact h9
                        have HLN : Hid ((wo S q k j ++ [Win.mk mf mt]).length = m + 1) := by show _ = _; rw [List.length_append, HM.out]; rfl
                        have hmm := HML.out
                        go_wp2_with (at_builtin; refine wpList_app rfl tyR (.tmp 85) (.tmp 87) rfl w4.heap.size (n := m) (m := 1) (B := w7.heap.size + 1) (xs := wins (wo S q k j)) (news := wins [⟨mf, mt⟩]) rfl rfl (HJ2.out.own.alloc _) HN.out (wins_ok _) (by omega) (by omega) (by simp <;> omega) ?_)
                        intro v2 w9 ha
                        have HO2 : Hid (Own w9 w4.heap.size rT 2 v2 (m + 1) (wins (wo S q k j ++ [Win.mk mf mt]))) := by rw [wins_app]; exact ha.own
                        have HB2 : Hid (Below w4.heap.size w4 w9) := (HJ2.out.bel.alloc (o := .cells #[.int .i64 mf, .int .i64 mt] rT) hzw).trans (ha.fr.below (B := w4.heap.size) (by simp <;> omega) (fun k hk h => by have := ((HJ2.out.own.lt k h).1); omega))
                        have hz9 := HB2.out.size
                        clear ha
                        go_wp2_with fail
                        refine (HI.out (m + 1) (by omega) v2 (wo S q k j ++ [Win.mk mf mt]) w9.heap.size w9 (by omega) HO2.out.sl HLN.out (Nat.le_refl _) HRG.out).mono ?_
                        rintro e w10 ⟨u, M, m2, rfl, hm2, hle, hsep, hcov, ho, hb⟩
                        have HF : Hid (M.length = m2 ∧ m2 ≤ j ∧ Sep M ∧ (∀ y, Cov M y ↔ Cov D y) ∧ Own w10 w.heap.size rT 2 u m2 (wins M) ∧ Below w.heap.size w w10) :=
                          ⟨hm2, by omega, hsep, fun y => (hcov y).trans ((HRC.out y).trans (HCV.out y)), ho.lower (by omega), ((HB.out.trans (HBc.out.mono hz1)).trans (HB2.out.mono (by omega))).trans (hb.mono (by omega))⟩
                        clear hm2 hle hsep hcov ho hb
                        go_wp2_with fail
                        go_ret
                        exact ⟨u, M, m2, rfl, HF.out⟩
        · obtain rfl : k = q := by omega
          have HA2 := hide (apTo_succ HAT.out HAI.out)
          go_wp2_with fail
          go_roundw
          case rel => exact ⟨k + 1, by omega, by simp, HA2, HBk⟩
          case measure => simp [intOf]; omega
    · obtain rfl : q = n := by omega
      have HSP : Hid (Sep S) := sep_of HSO.out HSG.out (by rw [HSL.out]; exact HAT.out)
      have HOF := hide ((HO.out.below (HBr.out.mono (Nat.le_refl _))))
      go_wp2_with fail
      go_ret
      exact ⟨_, S, q, rfl, HSL.out, Nat.le_refl _, HSP.out, HCV.out, HOF.out, HB.out.trans (HBr.out.mono hz1)⟩

end Go.Proofs.YtbnppocaeflghaaDoor
