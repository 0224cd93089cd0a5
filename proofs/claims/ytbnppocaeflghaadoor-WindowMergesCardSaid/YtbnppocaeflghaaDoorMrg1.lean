/- The reference of layer 7: Less, Put, Sort; windows in order. -/
import Derived.Test.YtbnppocaeflghaaDoorMergeP
import Derived.Test.YtbnppocaeflghaaDoorRef07
import Derived.Deep.RegionHeld3
namespace Go.Proofs.YtbnppocaeflghaaDoor
open Go.RowKit Go.Sort
set_option linter.unusedVariables false
set_option linter.unusedSimpArgs false

set_option maxHeartbeats 4000000 in
theorem rless_any (af at_ bf bt : Int) (w : World) : Calls Tryd.prog 22 #[.agg #[.int .i64 af, .int .i64 at_], .agg #[.int .i64 bf, .int .i64 bt]] w fun e w' => e = .returned (.bool (decide (wlt ⟨af, at_⟩ ⟨bf, bt⟩))) ∧ Below w.heap.size w w' := by
  obtain ⟨r, hr⟩ : ∃ r : Bool, r = decide (wlt ⟨af, at_⟩ ⟨bf, bt⟩) := ⟨_, rfl⟩
  rw [← hr]
  have HR := hide hr
  clear hr
  have hc : at_ < bt ∨ (¬ at_ < bt ∧ at_ ≠ bt) ∨ at_ = bt := by omega
  have HB : Hid (Below w.heap.size w ((w.alloc (.cells #[.int .i64 af, .int .i64 at_] rT)).alloc (.cells #[.int .i64 bf, .int .i64 bt] rT))) := ((Below.refl w.heap.size w).alloc (Nat.le_refl _) _).alloc (by simp) _
  rcases hc with h1 | ⟨h1, h2⟩ | rfl
  · have HT : Hid (r = true) := by show _ = _; rw [HR.out]; exact decide_eq_true (.inl h1)
    go_enter Tryd.func22, Tryd.ntmps22
    go_wp2_with fail
    go_ret
    rw [HT.out]
    exact ⟨rfl, HB.out⟩
  · have HT : Hid (r = false) := by show _ = _; rw [HR.out]; exact decide_eq_false (by unfold wlt; simp only; omega)
    have h3 : (at_ == bt) = false := by simp [h2]
    go_enter Tryd.func22, Tryd.ntmps22
    go_wp2_with fail
    go_ret
    rw [HT.out]
    exact ⟨rfl, HB.out⟩
  · have HT : Hid (r = decide (af < bf)) := by show _ = _; rw [HR.out]; exact decide_eq_decide.2 (by unfold wlt; simp)
    have h1 : ¬ at_ < at_ := by omega
    have h3 : (at_ == at_) = true := by simp
    go_enter Tryd.func22, Tryd.ntmps22
    go_wp2_with fail
    go_ret
    rw [HT.out]
    exact ⟨rfl, HB.out⟩

/-- Less of package window -/
theorem less_any7 (af at_ bf bt : Int) (w : World) : Calls Tryd.prog 21 #[.agg #[.int .i64 af, .int .i64 at_], .agg #[.int .i64 bf, .int .i64 bt]] w fun e w' => e = .returned (.bool (decide (wlt ⟨af, at_⟩ ⟨bf, bt⟩))) ∧ Below w.heap.size w w' := by
  obtain ⟨r, hr⟩ : ∃ r : Bool, r = decide (wlt ⟨af, at_⟩ ⟨bf, bt⟩) := ⟨_, rfl⟩
  rw [← hr]
  have HR : Hid (r = decide (ordI ⟨af, at_⟩ ⟨bf, bt⟩ < 0)) := by show _ = _; rw [hr]; exact decide_eq_decide.2 (ordI_neg _ _).symm
  clear hr
  go_enter Tryd.func21, Tryd.ntmps21
  go_wp2_with fail
  have HB1 : Hid (Below w.heap.size w ((w.alloc (.cells #[.int .i64 af, .int .i64 at_] wT)).alloc (.cells #[.int .i64 bf, .int .i64 bt] wT))) := ((Below.refl w.heap.size w).alloc (Nat.le_refl _) _).alloc (by simp) _
  refine (order_any7 af at_ bf bt _).mono ?_
  rintro e w2 ⟨rfl, q, os, rfl⟩
  have HB2 := hide (HB1.out.trans ((grow_below (w := ((w.alloc (.cells #[.int .i64 af, .int .i64 at_] wT)).alloc (.cells #[.int .i64 bf, .int .i64 bt] wT))) q os).mono HB1.out.size))
  clear HB1
  generalize grow (World.drewN _ q) os = w3 at *
  generalize ordI ⟨af, at_⟩ ⟨bf, bt⟩ = x at *
  go_wp2_with fail
  go_ret
  rw [HR.out]
  exact ⟨rfl, HB2.out⟩

/-- a window put into a list that is in order -/
def putW : List Win → Win → List Win
  | [], x => [x]
  | y :: l, x => if wlt x y then x :: y :: l else y :: putW l x
theorem putW_app (P S : List Win) (x : Win) (h : ∀ y ∈ P, ¬ wlt x y) : putW (P ++ S) x = P ++ putW S x := by
  induction P with
  | nil => rfl
  | cons p P ih =>
    rw [List.cons_append, putW, if_neg (h p List.mem_cons_self), ih (fun y hy => h y (List.mem_cons_of_mem _ hy))]
    rfl
theorem putW_perm (l : List Win) (x : Win) : (putW l x).Perm (x :: l) := by
  induction l with
  | nil => exact List.Perm.refl _
  | cons y l ih =>
    unfold putW
    split
    · exact List.Perm.refl _
    · exact ((List.Perm.cons y ih).trans (List.Perm.swap x y l))
theorem putW_len (l : List Win) (x : Win) : (putW l x).length = l.length + 1 := (putW_perm l x).length_eq
abbrev InO (D : List Win) : Prop := D.Pairwise (fun a b => ¬ wlt b a)
theorem putW_ord (l : List Win) (x : Win) (h : InO l) : InO (putW l x) := by
  induction l with
  | nil => exact List.pairwise_singleton _ _
  | cons y l ih =>
    have h1 := List.pairwise_cons.1 h
    unfold putW
    split
    · rename_i hlt
      refine List.pairwise_cons.2 ⟨fun z hz => ?_, h⟩
      rcases List.mem_cons.1 hz with rfl | h9
      · unfold wlt at *; omega
      · have := h1.1 z h9
        unfold wlt at *; omega
    · rename_i hlt
      refine List.pairwise_cons.2 ⟨fun z hz => ?_, ih h1.2⟩
      rcases List.mem_cons.1 ((putW_perm l x).mem_iff.1 hz) with rfl | h9
      · exact hlt
      · exact h1.1 z h9
def sortW (D : List Win) : List Win := D.foldl putW []
theorem sortW_snoc (D : List Win) (k : Nat) (hk : k < D.length) : sortW (D.take (k + 1)) = putW (sortW (D.take k)) D[k] := by
  unfold sortW
  rw [List.take_succ_eq_append_getElem hk, List.foldl_append]
  rfl
theorem sortW_aux : ∀ (D S : List Win), InO S → (D.foldl putW S).Perm (S ++ D) ∧ InO (D.foldl putW S) := by
  intro D
  induction D with
  | nil => intro S h; exact ⟨by simp, h⟩
  | cons x D ih =>
    intro S h
    have h1 := ih (putW S x) (putW_ord S x h)
    refine ⟨h1.1.trans ?_, h1.2⟩
    exact ((putW_perm S x).append_right D).trans List.perm_middle.symm
theorem sortW_perm (D : List Win) : (sortW D).Perm D := by simpa [sortW] using (sortW_aux D [] List.Pairwise.nil).1
theorem sortW_ord (D : List Win) : InO (sortW D) := (sortW_aux D [] List.Pairwise.nil).2
theorem sortW_len (D : List Win) : (sortW D).length = D.length := (sortW_perm D).length_eq
theorem sort_uniq {D E : List Win} (hp : E.Perm D) (ho : InO E) : E = sortW D := by
  refine List.Perm.eq_of_pairwise (le := fun a b => ¬ wlt b a) (fun a b _ _ h1 h2 => ?_) ho (sortW_ord D) (hp.trans (sortW_perm D).symm)
  obtain ⟨af, at_⟩ := a
  obtain ⟨bf, bt⟩ := b
  unfold wlt at h1 h2
  simp only at h1 h2
  have e1 : af = bf := by omega
  have e2 : at_ = bt := by omega
  rw [e1, e2]

/-- what Put has gathered of D's first k, x put in or not -/
def PutI (D : List Win) (x : Win) (k : Nat) (p : Bool) (O : List Win) : Prop :=
  if p then O ++ D.drop k = putW D x ∧ O.length = k + 1 else O = D.take k ∧ ∀ y ∈ D.take k, ¬ wlt x y

set_option maxRecDepth 100000 in
set_option maxHeartbeats 8000000 in
theorem rput_any (v : Value) (D : List Win) (n B : Nat) (x : Win) (w : World) (hs : Sl w B v 2 n (wins D)) (hD : D.length = n) (hn : n ≤ 1048577) (hB : B ≤ w.heap.size) :
    Calls Tryd.prog 46 #[v, .agg #[.int .i64 x.f, .int .i64 x.t]] w fun e w' => ∃ u, e = .returned u ∧ Own w' w.heap.size rT 2 u (n + 1) (wins (putW D x)) ∧ Below w.heap.size w w' := by
  obtain ⟨A, c, rfl, hc⟩ := hs.form
  obtain ⟨xf, xt⟩ := x
  have HS := hide hs
  have HD := hide hD
  clear hs hD
  go_enter Tryd.func46, Tryd.ntmps46
  go_wp2_with fail
  have HX : Hid (Blk (w.alloc (.cells #[.int .i64 xf, .int .i64 xt] rT)) w.heap.size rT #[.int .i64 xf, .int .i64 xt]) := Blk.new w _ _
  have HB0 : Hid (Below w.heap.size w (w.alloc (.cells #[.int .i64 xf, .int .i64 xt] rT))) := (Below.refl w.heap.size w).alloc (Nat.le_refl _) _
  have HZ : Hid ((w.alloc (.cells #[.int .i64 xf, .int .i64 xt] rT)).heap.size = w.heap.size + 1) := by show _ = _; simp
  generalize w.alloc (.cells #[.int .i64 xf, .int .i64 xt] rT) = w1 at *
  obtain ⟨xb, hxb⟩ : ∃ xb, xb = w.heap.size := ⟨_, rfl⟩
  have HXB := hide hxb
  rw [← hxb] at HX
  simp only [← hxb]
  clear hxb
  go_loopw [5, 6, 7] (fun o p i wr => ∃ (k m : Nat) (b : Bool) (O : List Win), k ≤ n ∧ i = .int .i64 k ∧ p = .bool b ∧ Hid (PutI D ⟨xf, xt⟩ k b O) ∧ Hid (O.length = m) ∧ m ≤ k + 1 ∧ Hid (Own wr w1.heap.size rT 2 o m (wins O)) ∧ Hid (Below w1.heap.size w1 wr)) (fun _ _ i _ => n - (intOf i).toNat)
  case atStart => exact ⟨0, 0, false, [], Nat.zero_le _, rfl, rfl, ⟨rfl, by simp⟩, rfl, by omega, Own.nil _ _ _ _, Below.refl _ _⟩
  case round =>
    obtain ⟨k, m, b, O, hk, rfl, rfl, HP, HM, hmk, HO, HB⟩ := hrel
    obtain ⟨oA, oc, rfl, hoc⟩ := HO.out.sl.form
    have hz0 := HB0.out.size
    have hzr := HB.out.size
    by_cases hlt : k < n
    · have hkD : k < D.length := by rw [HD.out]; exact hlt
      obtain ⟨ad, rfl, hab, g0, g1⟩ := win_at (HS.out.below ((HB0.out.mono hB).trans (HB.out.mono (by omega)))) hlt HD.out
      have HTK : Hid (D.take (k + 1) = D.take k ++ [D[k]]) := List.take_succ_eq_append_getElem hkD
      have HDR : Hid (D.drop k = D[k] :: D.drop (k + 1)) := List.drop_eq_getElem_cons hkD
      generalize D[k] = y at g0 g1 HTK HDR
      obtain ⟨yf, yt⟩ := y
      simp only at g0 g1
      have HX1 := hide (HX.out.below HB.out HX.out.lt)
      have x0 : wr.cell? ⟨xb, 0, none⟩ = some (.int .i64 xf) := HX1.out.cell 0
      have x1 : wr.cell? ⟨xb, 1, none⟩ = some (.int .i64 xt) := HX1.out.cell 1
      have hxl := HX1.out.lt
      have hab2 : (ad.add (k * 2)).block < wr.heap.size := by omega
      have HN : ∀ (X : World) (p q : Int), Hid (Sl (X.alloc (.cells #[.int .i64 p, .int .i64 q] rT)) (X.heap.size + 1) (.slice (some ⟨X.heap.size, 0, none⟩) 1 1) 2 1 (wins [⟨p, q⟩])) := by
        intro X p q
        have h9 := Sl.of_own (Own.new (n := 1) (sz := 2) (e := rT) (base := 0) X #[.int .i64 p, .int .i64 q] (by omega) (by omega) rfl)
        simp at h9
        exact h9
      have HBn : ∀ (X : World) (p q : Int), Below w1.heap.size w1 X → Hid (Below w1.heap.size w1 (X.alloc (.cells #[.int .i64 p, .int .i64 q] rT))) := fun X p q h => h.alloc (o := .cells #[.int .i64 p, .int .i64 q] rT) h.size
      cases b with
      | true =>
        have HP2 : Hid (PutI D ⟨xf, xt⟩ (k + 1) true (O ++ [⟨yf, yt⟩])) := by
          have h9 := HP.out
          unfold PutI at h9
          rw [if_pos rfl, HDR.out] at h9
          show PutI _ _ _ _ _
          unfold PutI
          rw [if_pos rfl]
          exact ⟨by rw [List.append_assoc]; exact h9.1, by rw [List.length_append, h9.2]; rfl⟩
        go_wp2_with fail
        go_quiet (fail)
        go_wp2_with (at_builtin; refine wpList_app rfl tyR (.tmp 28) (.tmp 33) rfl w1.heap.size (n := m) (m := 1) (B := wr.heap.size + 1) (xs := wins O) (news := wins [⟨yf, yt⟩]) rfl rfl ((HO.out.drewN nq).alloc _) (HN (wr.drewN nq) yf yt).out (wins_ok _) (by omega) (by omega) (by show _ ≤ (wr.alloc _).heap.size; simp <;> omega) ?_)
        intro v1 w2 ha
        have HO1 : Hid (Own w2 w1.heap.size rT 2 v1 (m + 1) (wins (O ++ [⟨yf, yt⟩]))) := by rw [wins_app]; exact ha.own
        have HB1 := hide ((HBn (wr.drewN nq) yf yt (HB.out.drewN nq)).out.trans (ha.fr.below (B := w1.heap.size) (by show _ ≤ (wr.alloc _).heap.size; simp <;> omega) (fun k hk h => by have := ((HO.out.lt k h).1); omega)))
        clear ha
        go_wp2_with fail
        go_roundw
        case rel => exact ⟨k + 1, m + 1, true, O ++ [⟨yf, yt⟩], by omega, by simp, rfl, HP2, by show _ = _; rw [List.length_append, HM.out]; rfl, by omega, HO1, HB1⟩
        case measure => simp [intOf]; omega
      | false =>
        obtain ⟨r, hr⟩ : ∃ r : Bool, r = decide (wlt ⟨xf, xt⟩ ⟨yf, yt⟩) := ⟨_, rfl⟩
        have HR := hide hr
        clear hr
        have HL : Hid (∀ X : World, Calls Tryd.prog 22 #[.agg #[.int .i64 xf, .int .i64 xt], .agg #[.int .i64 yf, .int .i64 yt]] X fun e w' => e = .returned (.bool r) ∧ Below X.heap.size X w') := fun X => by rw [HR.out]; exact rless_any xf xt yf yt X
        have HAD : Hid (∀ X : World, Below wr.heap.size wr X → X.cell? (ad.add (k * 2)) = some (.int .i64 yf) ∧ X.cell? ⟨(ad.add (k * 2)).block, (ad.add (k * 2)).off + 1, none⟩ = some (.int .i64 yt) ∧ X.cell? ⟨xb, 0, none⟩ = some (.int .i64 xf) ∧ X.cell? ⟨xb, 1, none⟩ = some (.int .i64 xt)) := fun X h => ⟨(h.cell (p := ad.add (k * 2)) hab2).trans g0, (h.cell (p := ⟨(ad.add (k * 2)).block, (ad.add (k * 2)).off + 1, none⟩) hab2).trans g1, (h.cell (p := ⟨xb, 0, none⟩) hxl).trans x0, (h.cell (p := ⟨xb, 1, none⟩) hxl).trans x1⟩
        go_wp2_with fail
        go_region_held3 (fun w' : World => w'.cell? (ad.add (k * 2)) = some (.int .i64 yf) ∧ w'.cell? ⟨(ad.add (k * 2)).block, (ad.add (k * 2)).off + 1, none⟩ = some (.int .i64 yt) ∧ w'.cell? ⟨xb, 0, none⟩ = some (.int .i64 xf) ∧ w'.cell? ⟨xb, 1, none⟩ = some (.int .i64 xt)) (first | exact ⟨g0, g1, x0, x1⟩ | exact HAD.out _ ((Below.refl _ _).drewN 1) | exact HAD.out _ (((Below.refl wr.heap.size wr).drewN 1).trans hb7)) (first
          | (go_at_call 22; refine (HL.out _).mono ?_; rintro e w7 ⟨rfl, hb7⟩))
        have HB7 : Hid (Below wr.heap.size wr w7) := ((Below.refl wr.heap.size wr).drewN 1).trans hb7
        clear hb7
        have hz7 := HB7.out.size
        have HOw := hide (HO.out.below HB7.out)
        have HBw := hide (HB.out.trans (HB7.out.mono hzr))
        have HS7 := hide (HX1.out.below HB7.out hxl)
        clear g0 g1 x0 x1
        obtain ⟨g0, g1, x0, x1⟩ := HAD.out _ HB7.out
        have hxl7 : xb < w7.heap.size := by omega
        have hab7 : (ad.add (k * 2)).block < w7.heap.size := by omega
        cases r with
        | true =>
          have HP2 : Hid (PutI D ⟨xf, xt⟩ (k + 1) true ((O ++ [⟨xf, xt⟩]) ++ [⟨yf, yt⟩])) := by
            have hlt9 : wlt ⟨xf, xt⟩ ⟨yf, yt⟩ := of_decide_eq_true HR.out.symm
            have h9 := HP.out
            unfold PutI at h9
            rw [if_neg (by simp)] at h9
            show PutI _ _ _ _ _
            unfold PutI
            rw [if_pos rfl]
            have hD2 : D = D.take k ++ (⟨yf, yt⟩ :: D.drop (k + 1)) := by rw [← HDR.out, List.take_append_drop]
            refine ⟨?_, ?_⟩
            · have h8 := putW_app (D.take k) (⟨yf, yt⟩ :: D.drop (k + 1)) ⟨xf, xt⟩ h9.2
              rw [← hD2] at h8
              rw [h8, putW, if_pos hlt9, h9.1]
              simp
            · rw [List.length_append, List.length_append, h9.1, List.length_take]
              simp
              have := HD.out
              omega
          have hmk2 : m ≤ k := by
            have h9 := HP.out
            unfold PutI at h9
            rw [if_neg (by simp)] at h9
            have h8 := HM.out
            rw [h9.1, List.length_take] at h8
            omega
          go_wp2_with (at_builtin; refine wpList_app rfl tyR (.tmp 24) (.tmp 26) rfl w1.heap.size (n := m) (m := 1) (B := w7.heap.size + 1) (xs := wins O) (news := wins [⟨xf, xt⟩]) rfl rfl (HOw.out.alloc _) (HN w7 xf xt).out (wins_ok _) (by omega) (by omega) (by simp <;> omega) ?_)
          intro v1 w8 ha
          have HO1 : Hid (Own w8 w1.heap.size rT 2 v1 (m + 1) (wins (O ++ [⟨xf, xt⟩]))) := by rw [wins_app]; exact ha.own
          have HB1 := hide ((HBn w7 xf xt HBw.out).out.trans (ha.fr.below (B := w1.heap.size) (by simp <;> omega) (fun k hk h => by have := ((HO.out.lt k h).1); omega)))
          have HF8 : Hid (Fr (fun k => (Value.slice oA m oc).ownBlock = some k) w7 w8) := (Fr.of_below ((Below.refl w7.heap.size w7).alloc (Nat.le_refl _) (.cells #[.int .i64 xf, .int .i64 xt] rT)) : Fr nob _ _).mono (fun _ _ h => h.elim) |>.trans ha.fr (fun k hk h => h)
          clear ha
          have hz8 := HB1.out.size
          have hbk : ∀ g, (Value.slice oA m oc).ownBlock = some g → w1.heap.size ≤ g := fun g hg => (HO.out.lt g hg).1
          have g0' : w8.cell? (ad.add (k * 2)) = some (.int .i64 yf) := (World.cell?_of_block (w := w7) (HF8.out.block _ hab7 (fun h => by have := hbk _ h; omega))).trans g0
          have g1' : w8.cell? ⟨(ad.add (k * 2)).block, (ad.add (k * 2)).off + 1, none⟩ = some (.int .i64 yt) := (HF8.out.cell (ad.add (k * 2)).block ((ad.add (k * 2)).off + 1) hab7 (fun h => by have := hbk _ h; omega)).trans g1
          have hab8 : (ad.add (k * 2)).block < w8.heap.size := by have := HF8.out.size; omega
          obtain ⟨vA, vc, rfl, hvc⟩ := HO1.out.sl.form
          clear g0 g1 x0 x1
          go_wp2_with (at_builtin; refine wpList_app rfl tyR (.tmp 28) (.tmp 33) rfl w1.heap.size (n := m + 1) (m := 1) (B := w8.heap.size + 1) (xs := wins (O ++ [⟨xf, xt⟩])) (news := wins [⟨yf, yt⟩]) rfl rfl (HO1.out.alloc _) (HN w8 yf yt).out (wins_ok _) (by omega) (by omega) (by simp <;> omega) ?_)
          intro v2 w9 ha
          have HO2 : Hid (Own w9 w1.heap.size rT 2 v2 (m + 1 + 1) (wins ((O ++ [⟨xf, xt⟩]) ++ [⟨yf, yt⟩]))) := by rw [wins_app]; exact ha.own
          have HB2 := hide ((HBn w8 yf yt HB1.out).out.trans (ha.fr.below (B := w1.heap.size) (by simp <;> omega) (fun k hk h => by have := ((HO1.out.lt k h).1); omega)))
          clear ha
          go_wp2_with fail
          go_roundw
          case rel => exact ⟨k + 1, m + 1 + 1, true, _, by omega, by simp, rfl, HP2, by show _ = _; rw [List.length_append, List.length_append, HM.out]; rfl, by omega, HO2, HB2⟩
          case measure => simp [intOf]; omega
        | false =>
          have HP2 : Hid (PutI D ⟨xf, xt⟩ (k + 1) false (O ++ [⟨yf, yt⟩])) := by
            have hlt9 : ¬ wlt ⟨xf, xt⟩ ⟨yf, yt⟩ := of_decide_eq_false HR.out.symm
            have h9 := HP.out
            unfold PutI at h9
            rw [if_neg (by simp)] at h9
            show PutI _ _ _ _ _
            unfold PutI
            rw [if_neg (by simp), HTK.out]
            refine ⟨by rw [h9.1], fun z hz => ?_⟩
            rcases List.mem_append.1 hz with h8 | h8
            · exact h9.2 z h8
            · rw [List.mem_singleton.1 h8]; exact hlt9
          go_wp2_with (at_builtin; refine wpList_app rfl tyR (.tmp 28) (.tmp 33) rfl w1.heap.size (n := m) (m := 1) (B := w7.heap.size + 1) (xs := wins O) (news := wins [⟨yf, yt⟩]) rfl rfl (HOw.out.alloc _) (HN w7 yf yt).out (wins_ok _) (by omega) (by omega) (by simp <;> omega) ?_)
          intro v2 w9 ha
          have HO2 : Hid (Own w9 w1.heap.size rT 2 v2 (m + 1) (wins (O ++ [⟨yf, yt⟩]))) := by rw [wins_app]; exact ha.own
          have HB2 := hide ((HBn w7 yf yt HBw.out).out.trans (ha.fr.below (B := w1.heap.size) (by simp <;> omega) (fun k hk h => by have := ((HO.out.lt k h).1); omega)))
          clear ha
          go_wp2_with fail
          go_roundw
          case rel => exact ⟨k + 1, m + 1, false, _, by omega, by simp, rfl, HP2, by show _ = _; rw [List.length_append, HM.out]; rfl, by omega, HO2, HB2⟩
          case measure => simp [intOf]; omega
    · obtain rfl : k = n := by omega
      have HBF := hide (HB0.out.trans (HB.out.mono hz0))
      cases b with
      | true =>
        have HE : Hid (O = putW D ⟨xf, xt⟩ ∧ m = k + 1) := by
          have h9 := HP.out
          unfold PutI at h9
          rw [if_pos rfl, List.drop_of_length_le (by rw [HD.out]; omega), List.append_nil] at h9
          exact ⟨h9.1, HM.out.symm.trans h9.2⟩
        obtain ⟨h1, rfl⟩ := HE.out
        go_wp2_with fail
        go_ret
        refine ⟨_, rfl, ?_, HBF.out⟩
        have h9 := HO.out.lower hz0
        rw [h1] at h9
        exact h9
      | false =>
        have HE : Hid (O ++ [⟨xf, xt⟩] = putW D ⟨xf, xt⟩ ∧ m = k) := by
          have h9 := HP.out
          unfold PutI at h9
          rw [if_neg (by simp), List.take_of_length_le (by rw [HD.out]; omega)] at h9
          obtain ⟨h9, h10⟩ := h9
          refine ⟨?_, by rw [← HM.out, h9, HD.out]⟩
          have h8 := putW_app D [] ⟨xf, xt⟩ h10
          rw [List.append_nil] at h8
          rw [h8, h9]
          rfl
        obtain ⟨h1, rfl⟩ := HE.out
        have HE1 := hide h1
        clear h1
        have HX1 := hide (HX.out.below HB.out HX.out.lt)
        have x0 : wr.cell? ⟨xb, 0, none⟩ = some (.int .i64 xf) := HX1.out.cell 0
        have x1 : wr.cell? ⟨xb, 1, none⟩ = some (.int .i64 xt) := HX1.out.cell 1
        have hxl := HX1.out.lt
        have HN : Hid (Sl (wr.alloc (.cells #[.int .i64 xf, .int .i64 xt] rT)) (wr.heap.size + 1) (.slice (some ⟨wr.heap.size, 0, none⟩) 1 1) 2 1 (wins [⟨xf, xt⟩])) := by
          have h9 := Sl.of_own (Own.new (n := 1) (sz := 2) (e := rT) (base := 0) wr #[.int .i64 xf, .int .i64 xt] (by omega) (by omega) rfl)
          simp at h9
          exact h9
        go_wp2_with (at_builtin; refine wpList_app rfl tyR (.tmp 37) (.tmp 39) rfl w1.heap.size (n := m) (m := 1) (B := wr.heap.size + 1) (xs := wins O) (news := wins [⟨xf, xt⟩]) rfl rfl (HO.out.alloc _) HN.out (wins_ok _) (by omega) (by omega) (by simp <;> omega) ?_)
        intro v2 w9 ha
        have HO2 : Hid (Own w9 w.heap.size rT 2 v2 (m + 1) (wins (O ++ [⟨xf, xt⟩]))) := by rw [wins_app]; exact ha.own.lower hz0
        have HB2 := hide ((HB.out.alloc (o := .cells #[.int .i64 xf, .int .i64 xt] rT) HB.out.size).trans (ha.fr.below (B := w1.heap.size) (by simp <;> omega) (fun k hk h => by have := ((HO.out.lt k h).1); omega)))
        clear ha
        go_wp2_with fail
        go_ret
        refine ⟨_, rfl, ?_, HB0.out.trans (HB2.out.mono hz0)⟩
        rw [← HE1.out]
        exact HO2.out

set_option maxHeartbeats 8000000 in
theorem rsort_any (v : Value) (D : List Win) (n B : Nat) (w : World) (hs : Sl w B v 2 n (wins D)) (hD : D.length = n) (hn : n ≤ 1048577) (hB : B ≤ w.heap.size) :
    Calls Tryd.prog 26 #[v] w fun e w' => ∃ u, e = .returned u ∧ Own w' w.heap.size rT 2 u n (wins (sortW D)) ∧ Below w.heap.size w w' := by
  obtain ⟨A, c, rfl, hc⟩ := hs.form
  have HS := hide hs
  have HD := hide hD
  clear hs hD
  go_enter Tryd.func26, Tryd.ntmps26
  go_wp2_with fail
  go_loopw [3, 4] (fun o i wr => ∃ (k : Nat), k ≤ n ∧ i = .int .i64 k ∧ Hid (Own wr w.heap.size rT 2 o k (wins (sortW (D.take k)))) ∧ Hid (Below w.heap.size w wr)) (fun _ i _ => n - (intOf i).toNat)
  case atStart => exact ⟨0, Nat.zero_le _, rfl, Own.nil _ _ _ _, Below.refl _ _⟩
  case round =>
    obtain ⟨k, hk, rfl, HO, HB⟩ := hrel
    obtain ⟨oA, oc, rfl, hoc⟩ := HO.out.sl.form
    by_cases hlt : k < n
    · have hkD : k < D.length := by rw [HD.out]; exact hlt
      obtain ⟨ad, rfl, hab, g0, g1⟩ := win_at (HS.out.below (HB.out.mono hB)) hlt HD.out
      have hzr := HB.out.size
      have HSN := hide (sortW_snoc D k hkD)
      have HLN : Hid ((sortW (D.take k)).length = k) := by show _ = _; rw [sortW_len, List.length_take, HD.out]; omega
      generalize D[k] = x at g0 g1 HSN
      obtain ⟨xf, xt⟩ := x
      simp only at g0 g1
      have hab2 : (ad.add (k * 2)).block < wr.heap.size := by omega
      go_wp2_with fail
      refine (rput_any _ (sortW (D.take k)) k wr.heap.size ⟨xf, xt⟩ wr HO.out.sl HLN.out (by omega) (Nat.le_refl _)).mono ?_
      rintro e w2 ⟨u, rfl, ho, hb⟩
      have HO2 : Hid (Own w2 w.heap.size rT 2 u (k + 1) (wins (sortW (D.take (k + 1))))) := by rw [HSN.out]; exact ho.lower hzr
      have HB2 := hide (HB.out.trans (hb.mono hzr))
      clear ho hb
      go_wp2_with fail
      go_roundw
      case rel => exact ⟨k + 1, by omega, by simp, HO2, HB2⟩
      case measure => simp [intOf]; omega
    · obtain rfl : k = n := by omega
      have HT : Hid (D.take k = D) := by rw [Hid, List.take_of_length_le (by rw [HD.out]; omega)]
      go_wp2_with fail
      go_ret
      have h9 := HO.out
      rw [HT.out] at h9
      exact ⟨_, rfl, h9, HB.out⟩

end Go.Proofs.YtbnppocaeflghaaDoor
