/- Heaps over lists: the plain law. -/
import Derived.Test.YtogelnljkdcajaaTree3
namespace Go.Proofs.Ytogelnljkdcajaa
open Go.RowKit Go.Sort
set_option linter.unusedVariables false
set_option linter.unusedSimpArgs false

/-! ## the order -/
structure Cp {α : Type} (c : α → α → Int) : Prop where
  anti : ∀ x y, c y x = - c x y
  trans : ∀ x y z, c x y ≤ 0 → c y z ≤ 0 → c x z ≤ 0
theorem Cp.lex {α : Type} {c d : α → α → Int} (h : Cp c) (k : Cp d) : Cp (fun x y => orI (c x y) (d x y)) := by
  constructor
  · intro x y
    have h1 := h.anti x y
    have h2 := k.anti x y
    simp only [orI]
    by_cases hc : c x y = 0
    · rw [if_pos hc, if_pos (by omega)]; exact h2
    · rw [if_neg hc, if_neg (by omega)]; exact h1
  · intro x y z h1 h2
    simp only [orI] at h1 h2 ⊢
    have a1 : c x y ≤ 0 := by split at h1 <;> omega
    have a2 : c y z ≤ 0 := by split at h2 <;> omega
    have a3 := h.trans x y z a1 a2
    by_cases hc : c x z = 0
    · have b1 := h.anti x z
      have b2 := h.trans y z x a2 (by omega)
      have b3 := h.anti x y
      have b4 := h.trans z x y (by omega) a1
      have b5 := h.anti y z
      rw [if_pos (by omega)] at h1 h2
      rw [if_pos hc]
      exact k.trans x y z h1 h2
    · rw [if_neg hc]; exact a3
theorem Cp.of {α β : Type} {c : α → α → Int} (h : Cp c) (f : β → α) : Cp (fun x y => c (f x) (f y)) := ⟨fun x y => h.anti _ _, fun x y z => h.trans _ _ _⟩
theorem cp_I : Cp cmpI := by
  constructor
  · intro x y
    unfold cmpI
    split <;> split <;> first | omega | (split <;> omega)
  · intro x y z h1 h2
    unfold cmpI at *
    split at h1
    · split at h2
      · rw [if_pos (by omega)]; omega
      · split at h2
        · omega
        · rw [if_pos (by omega)]; omega
    · split at h1
      · omega
      · have : x = y := by omega
        subst this
        exact h2
theorem cp_B : Cp cmpB := by
  refine ⟨cmpB_anti, fun x y z h1 h2 => ?_⟩
  by_cases h3 : cmpB x y = 0
  · rw [(cmpB_zero x y).1 h3]; exact h2
  · by_cases h4 : cmpB y z = 0
    · rw [← (cmpB_zero y z).1 h4]; exact h1
    · exact Int.le_of_lt (cmpB_trans x y z (by omega) (by omega))
theorem cp_W : Cp ordI := (cp_I.of Win.t).lex (cp_I.of Win.f)
def ordL (x y : TV) : Int := orI (cmpI x.a y.a) (orI (ordI x.win y.win) (orI (cmpB x.kb y.kb) (cmpI x.w y.w)))
theorem cp_L : Cp ordL := (cp_I.of TV.a).lex ((cp_W.of TV.win).lex ((cp_B.of TV.kb).lex (cp_I.of TV.w)))
theorem cmpI_val (x y : Int) : cmpI x y = -1 ∨ cmpI x y = 0 ∨ cmpI x y = 1 := by
  unfold cmpI
  split
  · exact .inl rfl
  · split
    · exact .inr (.inr rfl)
    · exact .inr (.inl rfl)
theorem ordI_val (x y : Win) : ordI x y = -1 ∨ ordI x y = 0 ∨ ordI x y = 1 := by
  unfold ordI orI
  split
  · exact cmpI_val _ _
  · exact cmpI_val _ _
theorem or_z {a b : Int} (h : a = 0) : orI a b = b := by unfold orI; rw [if_pos h]
theorem or_n {a b : Int} (h : a ≠ 0) : orI a b = a := by unfold orI; rw [if_neg h]
theorem ordT_eq (x y : TV) : ordT x y = ordL x y := by
  unfold ordT ordL
  generalize orI (cmpB x.kb y.kb) (cmpI x.w y.w) = r
  have h1 := cmpI_zero x.a y.a
  have h2 := ordI_neg x.win y.win
  have h3 := ordI_neg y.win x.win
  have h4 := cp_W.anti x.win y.win
  have h5 := ordI_val x.win y.win
  by_cases ha : x.a = y.a
  · rw [if_neg (by simpa using ha), or_z (h1.2 ha)]
    by_cases hw : wlt x.win y.win
    · have := h2.2 hw
      rw [if_pos hw, or_n (by omega)]
      omega
    · rw [if_neg hw]
      have h6 : ¬ ordI x.win y.win < 0 := fun h => hw (h2.1 h)
      by_cases hv : wlt y.win x.win
      · have := h3.2 hv
        rw [if_pos hv, or_n (by omega)]
        omega
      · have h7 : ¬ ordI y.win x.win < 0 := fun h => hv (h3.1 h)
        rw [if_neg hv, or_z (by omega)]
  · rw [if_pos (by simpa using ha), or_n (fun h => ha (h1.1 h))]

def leT (x y : TV) : Prop := ordT x y ≤ 0
theorem ltT_le {x y : TV} (h : ltT x y = true) : leT x y := by
  have := of_decide_eq_true h
  exact Int.le_of_lt this
theorem nlt_le {x y : TV} (h : ltT x y = false) : leT y x := by
  have h1 := of_decide_eq_false h
  have h2 := cp_L.anti y x
  unfold leT
  rw [ordT_eq] at *
  omega
theorem leT_trans {x y z : TV} (h : leT x y) (k : leT y z) : leT x z := by
  unfold leT at *
  rw [ordT_eq] at *
  exact cp_L.trans x y z h k
theorem leT_refl (x : TV) : leT x x := by
  unfold leT
  rw [ordT_eq]
  have := cp_L.anti x x
  omega

/-! ## lists by their places -/
def tz : TV := ⟨0, .slice none 0 0, [], 0, 0, 0⟩
def gt (L : List TV) (i : Nat) : TV := L.getD i tz
theorem gt_of {L : List TV} {i : Nat} (h : i < L.length) : gt L i = L[i] := by simp [gt, h]
theorem gt_swap (L : List TV) (i k : Nat) (hi : i < L.length) (hk : k < L.length) (j : Nat) : gt (swapL L i k hi hk) j = if j = k then gt L i else if j = i then gt L k else gt L j := by
  unfold swapL gt
  simp only [List.getD_eq_getElem?_getD, List.getElem?_set, List.length_set]
  by_cases h1 : k = j
  · subst h1
    simp [hk, hi]
  · have h1' : ¬ j = k := fun e => h1 e.symm
    rw [if_neg h1, if_neg h1']
    by_cases h2 : i = j
    · subst h2
      simp [hi, hk]
    · have h2' : ¬ j = i := fun e => h2 e.symm
      rw [if_neg h2, if_neg h2']
theorem swap_perm (L : List TV) (i k : Nat) (hi : i < L.length) (hk : k < L.length) : (swapL L i k hi hk).Perm L := List.set_set_perm hi hk

/-! ## heaps -/
def HeapN (f : Nat → TV) (n : Nat) : Prop := ∀ i, 0 < i → i < n → leT (f ((i - 1) / 2)) (f i)
def UpInv (f : Nat → TV) (n j : Nat) : Prop := (∀ i, 0 < i → i < n → i ≠ j → leT (f ((i - 1) / 2)) (f i)) ∧ (∀ i, 0 < i → i < n → (i - 1) / 2 = j → 0 < j → leT (f ((j - 1) / 2)) (f i))
def WInv (f : Nat → TV) (n j : Nat) : Prop := (∀ i, 0 < i → i < n → i ≠ j → (i - 1) / 2 ≠ j → leT (f ((i - 1) / 2)) (f i)) ∧ (∀ i, 0 < i → i < n → (i - 1) / 2 = j → 0 < j → leT (f ((j - 1) / 2)) (f i))
def swF (f : Nat → TV) (i k : Nat) : Nat → TV := fun j => if j = k then f i else if j = i then f k else f j
theorem UpInv.step {f : Nat → TV} {n j p : Nat} (h : UpInv f n j) (hj : 0 < j) (hn : j < n) (hp : p = (j - 1) / 2) (hl : leT (f j) (f p)) : UpInv (swF f p j) n p := by
  have hpj : p ≠ j := by omega
  constructor
  · intro i h0 h1 h2
    unfold swF
    by_cases hij : i = j
    · subst hij
      rw [if_pos rfl, if_neg (by omega), if_pos (by omega)]
      exact hl
    · rw [if_neg hij, if_neg h2]
      by_cases h3 : (i - 1) / 2 = j
      · rw [if_pos h3]
        have := h.2 i h0 h1 h3 hj
        rwa [← hp] at this
      · rw [if_neg h3]
        by_cases h4 : (i - 1) / 2 = p
        · rw [if_pos h4]
          have h5 := h.1 i h0 h1 hij
          rw [h4] at h5
          exact leT_trans hl h5
        · rw [if_neg h4]
          exact h.1 i h0 h1 hij
  · intro i h0 h1 h2 h3
    have hgp : leT (f ((p - 1) / 2)) (f p) := h.1 p h3 (by omega) hpj
    unfold swF
    rw [if_neg (show (p - 1) / 2 ≠ j by omega), if_neg (show (p - 1) / 2 ≠ p by omega)]
    by_cases hij : i = j
    · rw [if_pos hij]; exact hgp
    · rw [if_neg hij]
      rw [if_neg (show i ≠ p by omega)]
      have h5 := h.1 i h0 h1 hij
      rw [h2] at h5
      exact leT_trans hgp h5
theorem UpInv.done {f : Nat → TV} {n j : Nat} (h : UpInv f n j) (hl : 0 < j → leT (f ((j - 1) / 2)) (f j)) : HeapN f n := by
  intro i h0 h1
  by_cases hij : i = j
  · subst hij; exact hl h0
  · exact h.1 i h0 h1 hij
theorem WInv.step {f : Nat → TV} {n j c : Nat} (h : WInv f n j) (hc : c < n) (hcj : (c - 1) / 2 = j) (h0c : 0 < c) (hmin : ∀ i, 0 < i → i < n → (i - 1) / 2 = j → leT (f c) (f i)) (hl : leT (f c) (f j)) :
    WInv (swF f j c) n c ∧ leT (swF f j c ((c - 1) / 2)) (swF f j c c) ∧ (0 < j → leT (swF f j c ((j - 1) / 2)) (swF f j c j)) := by
  have hjc : j ≠ c := by omega
  refine ⟨⟨?_, ?_⟩, ?_, ?_⟩
  · intro i h0 h1 h2 h3
    unfold swF
    rw [if_neg h2, if_neg h3]
    by_cases hij : i = j
    · rw [if_pos hij]
      rw [if_neg (show (i - 1) / 2 ≠ j by omega)]
      have h4 := h.2 c h0c hc hcj (by omega)
      rw [hij]
      exact h4
    · rw [if_neg hij]
      by_cases h4 : (i - 1) / 2 = j
      · rw [if_pos h4]
        exact hmin i h0 h1 h4
      · rw [if_neg h4]
        exact h.1 i h0 h1 hij h4
  · intro i h0 h1 h2 h3
    unfold swF
    rw [if_neg (show (c - 1) / 2 ≠ c by omega), if_pos hcj, if_neg (show i ≠ c by omega), if_neg (show i ≠ j by omega)]
    have h5 := h.1 i h0 h1 (by omega) (by omega)
    rwa [h2] at h5
  · unfold swF
    rw [if_neg (show (c - 1) / 2 ≠ c by omega), if_pos hcj, if_pos rfl]
    exact hl
  · intro h0
    unfold swF
    rw [if_neg (show (j - 1) / 2 ≠ c by omega), if_neg (show (j - 1) / 2 ≠ j by omega), if_neg hjc, if_pos rfl]
    exact h.2 c h0c hc hcj h0
theorem WInv.done {f : Nat → TV} {n j : Nat} (h : WInv f n j) (hl : ∀ i, 0 < i → i < n → (i - 1) / 2 = j → leT (f j) (f i)) : UpInv f n j := by
  refine ⟨fun i h0 h1 h2 => ?_, h.2⟩
  by_cases h3 : (i - 1) / 2 = j
  · rw [h3]; exact hl i h0 h1 h3
  · exact h.1 i h0 h1 h2 h3
theorem UpInv.zero {f : Nat → TV} {n : Nat} (h : UpInv f n 0) : HeapN f n := h.done (fun h => by omega)
theorem HeapN.push {f g : Nat → TV} {n : Nat} (h : HeapN f n) (hg : ∀ i, i < n → g i = f i) : UpInv g (n + 1) n := by
  constructor
  · intro i h0 h1 h2
    rw [hg i (by omega), hg _ (by omega)]
    exact h i h0 (by omega)
  · intro i h0 h1 h2 h3
    omega
theorem HeapN.swap {f g : Nat → TV} {n j : Nat} (h : HeapN f (n + 1)) (hj : j < n) (hg : ∀ i, i < n → i ≠ j → g i = f i) : WInv g n j := by
  constructor
  · intro i h0 h1 h2 h3
    rw [hg i h1 h2, hg _ (by omega) h3]
    exact h i h0 (by omega)
  · intro i h0 h1 h2 h3
    rw [hg i h1 (by omega), hg _ (by omega) (by omega)]
    have h4 := h i h0 (by omega)
    have h5 := h j h3 (by omega)
    rw [h2] at h4
    exact leT_trans h5 h4
theorem HeapN.mono {f g : Nat → TV} {n m : Nat} (h : HeapN f n) (hm : m ≤ n) (hg : ∀ i, i < m → g i = f i) : HeapN g m := by
  intro i h0 h1
  rw [hg i h1, hg _ (by omega)]
  exact h i h0 (by omega)

/-! ## the map of places -/
structure Good (M : List (Nm × Int)) (L : List TV) : Prop where
  nd : (L.map TV.nm).Nodup
  lk : ∀ a v, lk M a = some v ↔ ∃ i, i < L.length ∧ v = (i : Int) ∧ (gt L i).nm = a
theorem nm_inj {L : List TV} (h : (L.map TV.nm).Nodup) {i j : Nat} (hi : i < L.length) (hj : j < L.length) (e : (gt L i).nm = (gt L j).nm) : i = j := by
  rw [gt_of hi, gt_of hj] at e
  have h2 : (L.map TV.nm)[i]'(by simpa using hi) = (L.map TV.nm)[j]'(by simpa using hj) := by simpa using e
  exact (List.getElem_inj h).1 h2
theorem Good.swap {M : List (Nm × Int)} {L : List TV} (h : Good M L) (i k : Nat) (hi : i < L.length) (hk : k < L.length) : Good (putM (putM M L[k].nm i) L[i].nm k) (swapL L i k hi hk) := by
  have hp : ((swapL L i k hi hk).map TV.nm).Perm (L.map TV.nm) := (swap_perm L i k hi hk).map _
  refine ⟨hp.nodup_iff.2 h.nd, fun a v => ?_⟩
  rw [lk_put, lk_put, ← gt_of hi, ← gt_of hk, swapL_len]
  constructor
  · intro h1
    split at h1
    · rename_i ha
      injection h1 with h1
      exact ⟨k, hk, h1.symm, by rw [gt_swap, if_pos rfl, ha]⟩
    · rename_i ha
      split at h1
      · rename_i hb
        injection h1 with h1
        refine ⟨i, hi, h1.symm, ?_⟩
        rw [gt_swap]
        split
        · rename_i hik
          subst hik
          exact hb.symm
        · rw [if_pos rfl, hb]
      · rename_i hb
        obtain ⟨j, hj, hv, hn⟩ := (h.lk a v).1 h1
        refine ⟨j, hj, hv, ?_⟩
        rw [gt_swap, if_neg (fun e => hb (by rw [← hn, e])), if_neg (fun e => ha (by rw [← hn, e]))]
        exact hn
  · rintro ⟨j, hj, hv, hn⟩
    rw [gt_swap] at hn
    by_cases h1 : j = k
    · rw [if_pos h1] at hn
      rw [if_pos hn.symm, hv, h1]
    · rw [if_neg h1] at hn
      by_cases h2 : j = i
      · rw [if_pos h2] at hn
        rw [if_neg (fun e => h1 (by rw [h2]; exact nm_inj h.nd hi hk (by rw [hn, e]))), if_pos hn.symm, hv, h2]
      · rw [if_neg h2] at hn
        rw [if_neg (fun e => h2 (nm_inj h.nd hj hi (by rw [hn, e]))), if_neg (fun e => h1 (nm_inj h.nd hj hk (by rw [hn, e])))]
        exact (h.lk a v).2 ⟨j, hj, hv, hn⟩
theorem gt_app {L : List TV} {x : TV} {i : Nat} (h : i < L.length) : gt (L ++ [x]) i = gt L i := by
  simp [gt, List.getElem?_append_left h]
theorem gt_last (L : List TV) (x : TV) : gt (L ++ [x]) L.length = x := by simp [gt]
theorem Good.push {M : List (Nm × Int)} {L : List TV} (h : Good M L) (x : TV) (hx : x.nm ∉ L.map TV.nm) : Good (putM M x.nm L.length) (L ++ [x]) := by
  refine ⟨?_, fun a v => ?_⟩
  · rw [List.map_append, List.nodup_append]
    refine ⟨h.nd, by simp, ?_⟩
    intro a ha b hb e
    simp only [List.map_cons, List.map_nil, List.mem_singleton] at hb
    rw [e, hb] at ha
    exact hx ha
  · rw [lk_put]
    simp only [List.length_append, List.length_cons, List.length_nil]
    constructor
    · intro h1
      split at h1
      · rename_i ha
        injection h1 with h1
        exact ⟨L.length, by omega, h1.symm, by rw [gt_last, ha]⟩
      · obtain ⟨j, hj, hv, hn⟩ := (h.lk a v).1 h1
        exact ⟨j, by omega, hv, by rw [gt_app hj]; exact hn⟩
    · rintro ⟨j, hj, hv, hn⟩
      by_cases h1 : j = L.length
      · subst h1
        rw [gt_last] at hn
        rw [if_pos hn.symm, hv]
      · have hj2 : j < L.length := by omega
        rw [gt_app hj2] at hn
        rw [if_neg (fun e => hx (by rw [← e, ← hn, gt_of hj2]; exact List.mem_map_of_mem (List.getElem_mem hj2)))]
        exact (h.lk a v).2 ⟨j, hj2, hv, hn⟩
theorem Good.pop {M : List (Nm × Int)} {L : List TV} {x : TV} (h : Good M (L ++ [x])) (hM : (M.map (·.1)).Nodup) : Good (delM M x.nm) L := by
  have hnd := h.nd
  rw [List.map_append, List.nodup_append] at hnd
  refine ⟨hnd.1, fun a v => ?_⟩
  rw [lk_del hM]
  constructor
  · intro h1
    split at h1
    · cases h1
    · rename_i ha
      obtain ⟨j, hj, hv, hn⟩ := (h.lk a v).1 h1
      simp only [List.length_append, List.length_cons, List.length_nil] at hj
      have hjl : j ≠ L.length := by
        rintro rfl
        rw [gt_last] at hn
        exact ha hn.symm
      have hj2 : j < L.length := by omega
      rw [gt_app hj2] at hn
      exact ⟨j, hj2, hv, hn⟩
  · rintro ⟨j, hj, hv, hn⟩
    have hne : a ≠ x.nm := by
      rintro rfl
      have hm : (gt L j).nm ∈ L.map TV.nm := by rw [gt_of hj]; exact List.mem_map_of_mem (List.getElem_mem hj)
      exact hnd.2.2 _ hm x.nm (by simp) hn
    rw [if_neg hne]
    exact (h.lk a v).2 ⟨j, by simp; omega, hv, by rw [gt_app hj]; exact hn⟩

end Go.Proofs.Ytogelnljkdcajaa
