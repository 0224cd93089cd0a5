/- timers.Heap: All. -/
import Derived.Test.YtogelnljkdcajaaHp7
import Derived.Test.YtogelnljkdcajaaSortG
namespace Go.Proofs
open Go.Shelf Go.Lib
def Try.sortT_ren : Go.Shelf.Ren := ⟨fun | 6 => 35 | 15 => 49 | 14 => 48 | 28 => 63 | 29 => 64 | 20 => 55 | 21 => 56 | 22 => 57 | 23 => 58 | 24 => 59 | 25 => 60 | 26 => 61 | 27 => 62 | 46 => 68 | 47 => 69 | 48 => 70 | 49 => 71 | 50 => 72 | 57 => 73 | n => n, fun | 22 => 46 | 24 => 37 | 25 => 88 | 3 => 3 | 39 => 105 | 0 => 0 | 53 => 119 | 55 => 121 | 4 => 4 | 46 => 113 | 45 => 112 | 50 => 81 | 5 => 5 | 9 => 9 | 66 => 124 | 70 => 128 | 76 => 130 | 77 => 131 | n => n, fun | n => n⟩
theorem Try.sortT : Go.Proofs.SlLaysF0.n6 Try.prog Try.sortT_ren := {
  mixed := by kernel_rfl
  f6 := ⟨Try.f35.name, by decide, Try.func35.trans (congrArg some (by kernel_rfl))⟩
  f14 := ⟨Try.f48.name, by decide, Try.func48.trans (congrArg some (by kernel_rfl))⟩
  f15 := Try.func49.trans (congrArg some (by kernel_rfl))
  f20 := ⟨Try.f55.name, by decide, Try.func55.trans (congrArg some (by kernel_rfl))⟩
  f21 := ⟨Try.f56.name, by decide, Try.func56.trans (congrArg some (by kernel_rfl))⟩
  f22 := ⟨Try.f57.name, by decide, Try.func57.trans (congrArg some (by kernel_rfl))⟩
  f23 := ⟨Try.f58.name, by decide, Try.func58.trans (congrArg some (by kernel_rfl))⟩
  f24 := ⟨Try.f59.name, by decide, Try.func59.trans (congrArg some (by kernel_rfl))⟩
  f25 := ⟨Try.f60.name, by decide, Try.func60.trans (congrArg some (by kernel_rfl))⟩
  f26 := ⟨Try.f61.name, by decide, Try.func61.trans (congrArg some (by kernel_rfl))⟩
  f27 := ⟨Try.f62.name, by decide, Try.func62.trans (congrArg some (by kernel_rfl))⟩
  f28 := Try.func63.trans (congrArg some (by kernel_rfl))
  f29 := Try.func64.trans (congrArg some (by kernel_rfl))
  f46 := ⟨Try.f68.name, by decide, Try.func68.trans (congrArg some (by kernel_rfl))⟩
  f47 := Try.func69.trans (congrArg some (by kernel_rfl))
  f48 := Try.func70.trans (congrArg some (by kernel_rfl))
  f49 := ⟨Try.f71.name, by decide, Try.func71.trans (congrArg some (by kernel_rfl))⟩
  f50 := ⟨Try.f72.name, by decide, Try.func72.trans (congrArg some (by kernel_rfl))⟩
  f57 := ⟨Try.f73.name, by decide, Try.func73.trans (congrArg some (by kernel_rfl))⟩
  t0 := Try.underlying0
  a0 := Try.isAgg0
  z0 := Try.sizeOf0
  v0 := Try.zeroValue0
  t3 := Try.underlying3
  a3 := Try.isAgg3
  z3 := Try.sizeOf3
  v3 := Try.zeroValue3
  t4 := Try.underlying4
  a4 := Try.isAgg4
  z4 := Try.sizeOf4
  v4 := Try.zeroValue4
  t5 := Try.underlying5
  a5 := Try.isAgg5
  z5 := Try.sizeOf5
  v5 := Try.zeroValue5
  t9 := Try.underlying9
  a9 := Try.isAgg9
  z9 := Try.sizeOf9
  v9 := Try.zeroValue9
  t22 := Try.underlying46
  a22 := Try.isAgg46
  z22 := Try.sizeOf46
  v22 := Try.zeroValue46
  t25 := Try.underlying88
  a25 := Try.isAgg88
  z25 := Try.sizeOf88
  v25 := Try.zeroValue88
  t39 := Try.underlying105
  a39 := Try.isAgg105
  z39 := Try.sizeOf105
  v39 := Try.zeroValue105
  t45 := Try.underlying112
  a45 := Try.isAgg112
  z45 := Try.sizeOf112
  v45 := Try.zeroValue112
  t46 := Try.underlying113
  a46 := Try.isAgg113
  z46 := Try.sizeOf113
  v46 := Try.zeroValue113
  t50 := Try.underlying81
  a50 := Try.isAgg81
  z50 := Try.sizeOf81
  v50 := Try.zeroValue81
  t53 := Try.underlying119
  a53 := Try.isAgg119
  z53 := Try.sizeOf119
  v53 := Try.zeroValue119
  t55 := Try.underlying121
  a55 := Try.isAgg121
  z55 := Try.sizeOf121
  v55 := Try.zeroValue121
  t66 := Try.underlying124
  a66 := Try.isAgg124
  z66 := Try.sizeOf124
  v66 := Try.zeroValue124
  t70 := Try.underlying128
  a70 := Try.isAgg128
  z70 := Try.sizeOf128
  v70 := Try.zeroValue128
  t76 := Try.underlying130
  a76 := Try.isAgg130
  z76 := Try.sizeOf130
  v76 := Try.zeroValue130
  t77 := Try.underlying131
  a77 := Try.isAgg131
  z77 := Try.sizeOf131
  v77 := Try.zeroValue131 }
end Go.Proofs
namespace Go.Proofs.Ytogelnljkdcajaa
open Go.RowKit Go.Sort
set_option linter.unusedVariables false
set_option linter.unusedSimpArgs false

theorem Own.slB' {w : World} {base e sz n B : Nat} {v : Value} {xs : List Value} (h : Own w base e sz v n xs) (hB : ∀ g, v.ownBlock = some g → g < B) : Sl w B v sz n xs := by
  refine ⟨h.1, ?_⟩
  rcases h.2 with ⟨rfl, rfl⟩ | ⟨g, cap, cur, rfl, hb, hg, hc, hm, _⟩
  · exact ⟨none, 0, rfl, by omega, by omega, by omega⟩
  · exact ⟨_, cap, rfl, hc, by unfold maxLen at hm; omega, fun _ => ⟨_, rfl, hB g rfl, fun j u hu => h.cells (g := g) rfl j u hu⟩⟩
/-- timers with keys of the call's own -/
abbrev KT (w : World) (base : Nat) := {x : TV // KeyO w base x}
instance (w : World) (base : Nat) : Inhabited (KT w base) := ⟨⟨tz, Own.nil _ _ _ _, fun c hc => (by cases hc), by simp [tz]⟩⟩
def KT.enc {w : World} {base : Nat} (x : KT w base) : List Value := x.1.cells
theorem KT.len5 {w : World} {base : Nat} (x : KT w base) : x.enc.length = 5 := rfl
def KT.cf {w : World} {base : Nat} (x y : KT w base) : Int := ordT x.1 y.1
theorem lt_cf {w : World} {base : Nat} (x y : KT w base) : ltOf KT.cf x y = ltT x.1 y.1 := rfl
theorem ordT_irr (x : TV) : ¬ ordT x x < 0 := by
  rw [ordT_eq]
  have := cp_L.anti x x
  omega
theorem swo_T {w : World} {base : Nat} : SWO (ltOf (KT.cf (w := w) (base := base))) where
  irrefl x := by rw [lt_cf]; exact decide_eq_false (ordT_irr x.1)
  trans x y z h1 h2 := by
    rw [lt_cf] at h1 h2 ⊢
    have a1 := of_decide_eq_true h1
    have a2 := of_decide_eq_true h2
    refine decide_eq_true ?_
    rw [ordT_eq] at a1 a2 ⊢
    have b1 := cp_L.trans x.1 y.1 z.1 (by omega) (by omega)
    by_cases h0 : ordL x.1 z.1 = 0
    · have c1 := cp_L.anti x.1 z.1
      have c2 := cp_L.trans y.1 z.1 x.1 (by omega) (by omega)
      have c3 := cp_L.anti x.1 y.1
      omega
    · omega
  ntrans x y z h1 h2 := by
    rw [lt_cf] at h1 h2 ⊢
    have a1 := of_decide_eq_false h1
    have a2 := of_decide_eq_false h2
    refine decide_eq_false ?_
    rw [ordT_eq] at a1 a2 ⊢
    have c1 := cp_L.anti x.1 y.1
    have c2 := cp_L.anti y.1 z.1
    have c3 := cp_L.anti x.1 z.1
    have b1 := cp_L.trans z.1 y.1 x.1 (by omega) (by omega)
    omega
theorem flat_KT {w : World} {base : Nat} (D : List (KT w base)) : D.flatMap KT.enc = tms (D.map (·.1)) := by
  unfold tms
  rw [List.flatMap_map]
  rfl
theorem grow_below2 {w : World} (os : Array Obj) : Below w.heap.size w (grow w os) := by
  have h := grow_below (w := w) 0 os
  exact h

/-- slices.SortFunc at timers -/
theorem tsort_any (v : Value) (D : List TV) (base : Nat) (w : World) (h : Own w base tmT 5 v D.length (tms D)) (hk : ∀ x ∈ D, KeyO w base x) (hn : D.length < 4611686018427387904) :
    Calls Try.prog 35 #[v, .func (.func 36) #[] #[]] w fun e w' => e = .returned (.tuple #[]) ∧ ∃ E : List TV, E.Perm D ∧ E.Pairwise leT ∧ Own w' base tmT 5 v D.length (tms E) ∧ Fr (fun k => v.ownBlock = some k) w w' := by
  rcases h.2 with ⟨rfl, h0⟩ | ⟨g', cap, cur, rfl, _, hg', _⟩
  · have hD : D = [] := List.eq_nil_of_length_eq_zero h0
    subst hD
    refine (AnyF.slices_SortFunc_none Try.sortT none 0 _ w).mono ?_
    rintro e w' ⟨rfl, rfl⟩
    exact ⟨rfl, [], List.Perm.refl _, List.Pairwise.nil, h, Fr.refl _ _⟩
  · have hblk : g' < w.heap.size := (h.lt g' rfl).2
    obtain ⟨K, hK⟩ : ∃ K : List (KT w base), K.map (·.1) = D := ⟨D.attach.map (fun x => ⟨x.1, hk x.1 x.2⟩), by simp⟩
    have hKl : K.length = D.length := by rw [← hK]; simp
    rw [← hK] at h
    rw [← flat_KT] at h
    simp only [List.length_map] at h
    rw [← hKl]
    have eg : ∀ args w, (callFunc 36 args).run Try.prog w = .ok (.enter 36 args) w := fun args w => by kernel_rfl
    have hcm : CmpLays Try.prog 36 #[] (KT.enc (w := w) (base := base)) 5 (KT.cf (w := w) (base := base)) g' 0 K.toArray.size w := by
      intro m os dk hs x y
      have hz : dk.toList.length = K.length := by simpa using hs
      have hp := gen_putK (m := m) (E := dk.toList) KT.len5 (Nat.succ_pos 4) h hz
      have e10 : dk.toList.toArray = dk := by simp
      rw [e10] at hp
      have hf : Fr (fun k => k = g') w (grow (putRowK (KT.enc (w := w) (base := base)) 5 (Go.Sort.ahead w m) g' 0 dk) os) := hp.2.trans (Fr.of_below (grow_below2 os) : Fr nob _ _) (fun _ _ f => f.elim)
      have hky : ∀ z : KT w base, KeyIn (grow (putRowK (KT.enc (w := w) (base := base)) 5 (Go.Sort.ahead w m) g' 0 dk) os) w.heap.size z.1 := fun z => by
        obtain ⟨cs, hcs⟩ := h.typed g' rfl
        refine ⟨(z.2.1.fr hf (fun k hk9 e => ?_)).slB' (fun k hk9 => (z.2.1.lt k hk9).2), z.2.2.1⟩
        subst e
        exact z.2.1.ne hcs (by decide) hk9
      exact order_any x.1 y.1 w.heap.size _ (hky x) (hky y) hf.size
    refine (AnyQ.slices_SortFunc Try.sortT 5 Try.isAgg37 Try.sizeOf37 KT.enc (fun _ => rfl) (fun x v hv => ?_) KT.cf swo_T 36 #[] g' 0 cap K.toArray w eg hcm (gen_holds KT.len5 (Nat.succ_pos 4) h) hblk (by simp; omega)).mono ?_
    · obtain ⟨A, c, hkv, _⟩ := x.2.1.sl.form
      obtain ⟨⟨xa, xk, xb, xf, xt, xw⟩, hx⟩ := x
      simp only at hkv
      subst hkv
      simp [KT.enc, TV.cells] at hv
      rcases hv with rfl | rfl | rfl | rfl | rfl <;> rfl
    rintro e w' ⟨rfl, d', n, os, hp, hs, rfl⟩
    have hsz : d'.size = K.length := by simpa using hp.1
    have hd : d'.toList.length = K.length := by simpa using hsz
    have h9 := gen_putK (m := n) (E := d'.toList) KT.len5 (Nat.succ_pos 4) h hd
    have h10 : d'.toList.toArray = d' := by simp
    rw [h10, flat_KT] at h9
    refine ⟨rfl, d'.toList.map (fun x : KT w base => x.1), ?_, ?_, h9.1.below (grow_below2 os), ?_⟩
    · have h8 := hp.2.2
      have e1 : d'.extract 0 K.toArray.size = d' := by
        rw [show K.toArray.size = d'.size by simp [hsz]]
        exact Array.extract_size
      have e2 : K.toArray.extract 0 K.toArray.size = K.toArray := Array.extract_size
      rw [e1, e2] at h8
      rw [← hK]
      exact h8.map _
    · rw [List.pairwise_map, List.pairwise_iff_getElem]
      intro i j hi hj hij
      have h8 := hs i j (Nat.zero_le _) hij (by simp at hj; simp; omega)
      simp at hi hj
      rw [getElem!_pos d' i hi, getElem!_pos d' j hj] at h8
      rw [lt_cf] at h8
      have := nlt_le h8
      simpa using this
    · exact (h9.2.mono (fun k _ hk => by subst hk; rfl)).trans (Fr.of_below (grow_below2 os) : Fr nob _ _) (fun k _ hk => hk.elim)


end Go.Proofs.Ytogelnljkdcajaa
