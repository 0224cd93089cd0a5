/- timers.Heap: Set: the plain law. -/
import Derived.Test.YtogelnljkdcajaaHp4
namespace Go.Proofs.Ytogelnljkdcajaa
open Go.RowKit Go.Sort
set_option linter.unusedVariables false
set_option linter.unusedSimpArgs false

/-- a timer, without where its key lies -/
structure TD where
  a : Int
  b : List Int
  f : Int
  t : Int
  w : Int
deriving DecidableEq
def TV.d (x : TV) : TD := ⟨x.a, x.kb, x.f, x.t, x.w⟩
def TD.nm (x : TD) : Nm := ⟨strOfNums x.b, x.f, x.t, x.w⟩
theorem TV.d_nm (x : TV) : x.d.nm = x.nm := rfl
def setD (l : List TD) (x : TD) : List TD := l.filter (fun y => decide (y.nm ≠ x.nm)) ++ [x]
def canD (l : List TD) (a : Nm) : List TD := l.filter (fun y => decide (y.nm ≠ a))
theorem canD_none {L : List TV} {a : Nm} (h : a ∉ L.map TV.nm) : canD (L.map TV.d) a = L.map TV.d := by
  refine List.filter_eq_self.2 fun y hy => ?_
  obtain ⟨x, hx, rfl⟩ := List.mem_map.1 hy
  refine decide_eq_true fun e => h ?_
  rw [← e, TV.d_nm]
  exact List.mem_map_of_mem hx
theorem canD_some {L L1 : List TV} {y : TV} (h : L.Perm (L1 ++ [y])) (hn : (L.map TV.nm).Nodup) : (L1.map TV.d).Perm (canD (L.map TV.d) y.nm) ∧ y.nm ∉ L1.map TV.nm := by
  have hn2 : ((L1 ++ [y]).map TV.nm).Nodup := (h.map TV.nm).nodup_iff.1 hn
  rw [List.map_append, List.nodup_append] at hn2
  have hni : y.nm ∉ L1.map TV.nm := fun hm => hn2.2.2 _ hm y.nm (by simp) rfl
  refine ⟨?_, hni⟩
  have h2 : (canD (L.map TV.d) y.nm).Perm (canD ((L1 ++ [y]).map TV.d) y.nm) := (h.map TV.d).filter _
  have h3 : canD ((L1 ++ [y]).map TV.d) y.nm = L1.map TV.d := by
    have h4 := canD_none hni
    unfold canD at h4 ⊢
    rw [List.map_append, List.filter_append, h4]
    simp [TV.d_nm]
  rw [h3] at h2
  exact h2.symm

/-- whether there was one or not -/
theorem CanPost.both {w w' : World} {base hb tb mb : Nat} {lv : Value} {L : List TV} {a : Nm} {e : Ending} (h : CanPost w base hb tb mb lv L a e w') (hh : HpS w base hb tb mb lv L) :
    ∃ u lv' L', e = .returned u ∧ HpS w' base hb tb mb lv' L' ∧ (L'.map TV.d).Perm (canD (L.map TV.d) a) ∧ a ∉ L'.map TV.nm ∧ Fr (HBk tb mb lv) w w' ∧ NewB w lv lv' ∧ L'.length ≤ L.length := by
  rcases h with ⟨hn, he, hb⟩ | ⟨x, lv', L', hx, hnm, he, hh', hk, hp, hf, hnb⟩
  · exact ⟨_, lv, L, he, hh.below hb, by rw [canD_none hn], hn, Fr.of_below hb, fun g hg => .inl hg, Nat.le_refl _⟩
  · obtain ⟨M, _, hg⟩ := hh.hp.st
    obtain ⟨h1, h2⟩ := canD_some hp hg.nd
    rw [hnm] at h1 h2
    refine ⟨_, lv', L', he, hh', h1, h2, hf, hnb, ?_⟩
    have := hp.length_eq
    simp at this
    omega

end Go.Proofs.Ytogelnljkdcajaa
