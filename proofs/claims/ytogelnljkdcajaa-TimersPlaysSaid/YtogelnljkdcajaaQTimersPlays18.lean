/- TimersPlays: the walk. (printed by genplp.py) / An argument's reading opened to cells, type by type: whole numbers, bools, strings, structs, slices of them. / An argument's reading opened to cells, with what the form's reach and the reading's bulk tell of its size. / How the arguments of the laws of layer 16 read. / TimersPlays at its arguments. -/
import Derived.Test.YtogelnljkdcajaaQTimersPlays15
import Derived.Test.YtogelnljkdcajaaQTimersPlays16
import Derived.Test.YtogelnljkdcajaaQTimersPlays17
import Derived.Test.YtogelnljkdcajaaQTimersPlays00
import Derived.Deep.Slices
import Derived.Deep.Fields
import Derived.ProofKit
import Derived.OpenShut
import Derived.ShutString
import Derived.SizedLaws
import Derived.ChangeOld
import Derived.Test.YtogelnljkdcajaaRows
import Derived.JoinedCond
import Derived.Deep.CondSized
import Derived.Test.YtogelnljkdcajaaQTimersPlays08

namespace Go.Proofs.Ytogelnljkdcajaa
open Go.RowKit Go.Sort
set_option linter.unusedVariables false
set_option linter.unusedSimpArgs false

set_option maxRecDepth 100000 in
set_option maxHeartbeats 16000000 in
theorem plays16_ok (v : Value) (S : List Op16) (n : Nat) (w : World) (hs : Sl w w.heap.size v 3 n (ops16 S)) (hS : S.length = n) (hO : ∀ o ∈ S, Op16Q w o) :
    Calls Try.prog 6 #[v] w fun e w' => e = .returned (.bool true) ∧ Below w.heap.size w w' := by
  obtain ⟨sA, sc, rfl, hsc⟩ := hs.form
  have hmax := hs.max
  have HS := hide hs
  have HSL := hide hS
  have HO := hide hO
  clear hs hS hO
  go_enter Try.func6, Try.ntmps6
  go_wp2_with fail
  refine (new_any _ w.heap.size (Nat.le_refl _)).mono ?_
  rintro e w1 ⟨hb, tb, mb, lv, rfl, hp1, hb1⟩
  have H1 : Hid (HR w w1 hb tb mb lv []) := ⟨hp1, hb1⟩
  clear hp1 hb1
  by_cases h200 : n ≤ 200
  · have hg : ¬ (200 : Int) < (n : Int) := by omega
    go_wp2_with fail
    go_loopw [4, 44] (fun l i wz => ∃ (k m : Nat) (vA : Option Addr) (vc : Nat) (X : List TV) (lv1 : Value) (L1 : List TV), k ≤ n ∧ i = .int .i64 k ∧ l = .slice vA m vc ∧ L1.length ≤ 100 * k ∧ m ≤ vc ∧ Hid (m = X.length) ∧ Hid (PI w wz hb tb mb lv1 L1 (.slice vA m vc) X)) (fun _ i _ => n - (intOf i).toNat)
    case atStart => exact ⟨0, 0, none, 0, [], lv, [], Nat.zero_le _, rfl, rfl, Nat.zero_le _, Nat.le_refl _, rfl, H1.out, Own.nil _ _ _ _, ⟨List.Perm.refl _, List.Pairwise.nil, fun x hx => by cases hx⟩, fun x hx => by cases hx⟩
    case round =>
      obtain ⟨k, m, vA, vc, X, lv1, L1, hk, rfl, rfl, hl1, hmc, HM, HPI⟩ := hrel
      by_cases hlt : k < n
      · have hkS : k < S.length := by rw [HSL.out]; exact hlt
        obtain ⟨ad, rfl, hab, c0, c1, c2⟩ := op16_at (HS.out.below HPI.out.hr.bl) hlt HSL.out
        have hzr := HPI.out.hr.bl.size
        have hb2 : (ad.add (k * 3)).block < wr.heap.size := by omega
        have HOQ := hide (HO.out _ (List.getElem_mem hkS))
        generalize S[k] = o at c0 c1 c2 HOQ
        obtain ⟨ok, now, otv, ots⟩ := o
        obtain ⟨tA, tc, hot, htc⟩ := HOQ.out.1.form
        simp only at c0 c1 c2 hot htc
        subst hot
        obtain ⟨tn, htn⟩ : ∃ tn, tn = ots.length := ⟨_, rfl⟩
        have HTN := hide htn
        have HOS := HOQ.out.1
        have HTQ := hide HOQ.out.2
        simp only at HOS HTQ
        rw [← htn] at c2 htc HOS
        replace HOS := hide HOS
        clear htn HOQ
        by_cases h100 : tn ≤ 100
        · have hg2 : ¬ (100 : Int) < (tn : Int) := by omega
          have HOP2 : Hid (Blk (wr.alloc (.cells #[.int .i64 ok, .int .i64 now, .slice tA tn tc] opT16)) wr.heap.size opT16 #[.int .i64 ok, .int .i64 now, .slice tA tn tc]) := Blk.new wr _ _
          have HPI2 := hide (HPI.out.alloc (.cells #[.int .i64 ok, .int .i64 now, .slice tA tn tc] opT16))
          by_cases hcz : ok = 2 ∧ tn = 0
          · obtain ⟨rfl, rfl⟩ := hcz
            go_wp2_with fail
            go_roundw
            case rel => exact ⟨k + 1, m, vA, vc, X, lv1, L1, by omega, by simp, rfl, by omega, hmc, HM.out, HPI2.out⟩
            case measure => simp [intOf]; omega
          · go_upto_block 2 with fail
            have hz2 : wr.heap.size + 1 ≤ (wr.alloc (.cells #[.int .i64 ok, .int .i64 now, .slice tA tn tc] opT16)).heap.size := by simp
            generalize wr.alloc (.cells #[.int .i64 ok, .int .i64 now, .slice tA tn tc] opT16) = w2 at *
            obtain ⟨ob, hob⟩ : ∃ ob, ob = wr.heap.size := ⟨_, rfl⟩
            rw [← hob] at HOP2 ⊢
            have hob2 : ob < w2.heap.size := by omega
            have hzw : w.heap.size ≤ w2.heap.size := by omega
            clear hob HPI c0 c1 c2
            go_cut [4, 44] from 44 to 258 (fun l i wz => i = .int .i64 k ∧ ∃ (m : Nat) (vA : Option Addr) (vc : Nat) (X : List TV) (lv1 : Value) (L1 : List TV), l = .slice vA m vc ∧ L1.length ≤ 100 * (k + 1) ∧ m ≤ vc ∧ Hid (m = X.length) ∧ Hid (PI w wz hb tb mb lv1 L1 (.slice vA m vc) X) ∧ Hid (Blk wz ob opT16 #[.int .i64 ok, .int .i64 now, .slice tA tn tc]))
            case first =>
              have d0 : w2.cell? ⟨ob, 0, none⟩ = some (.int .i64 ok) := HOP2.out.cell 0
              have d1 : w2.cell? ⟨ob, 1, none⟩ = some (.int .i64 now) := HOP2.out.cell 1
              have d2 : w2.cell? ⟨ob, 2, none⟩ = some (.slice tA tn tc) := HOP2.out.cell 2
              
              by_cases hk1 : ok = 1
              · subst hk1
                exact plays16_set w w2 hb tb mb ob m vc tc tn n k now vA tA X ots lv1 L1 h200 hlt hl1 hmc HM htc HTN HTQ HOS h100 HPI2 HOP2 hob2 hzw _ _ _ (by assumption) (by assumption)
              · by_cases hk2 : ok = 2
                · subst hk2
                  exact plays16_can w w2 hb tb mb ob m vc tc tn n k now vA tA X ots lv1 L1 h200 hlt hl1 hmc HM htc HTN HTQ HOS h100 HPI2 HOP2 hob2 hzw hcz _ _ _ (by assumption) (by assumption)
                · by_cases hk3 : ok = 3
                  · subst hk3
                    exact plays16_due w w2 hb tb mb ob m vc tc tn n k now vA tA X ots lv1 L1 h200 hlt hl1 hmc HM htc HTN HTQ HOS h100 HPI2 HOP2 hob2 hzw _ _ _ (by assumption) (by assumption)
                  · go_wp2_with fail
                    go_meet
                    case rel => exact ⟨rfl, m, vA, vc, X, lv1, L1, rfl, by omega, hmc, HM.out, HPI2.out, HOP2.out⟩
            case rest =>
              clear HM HPI2 HOP2 hzw hz2 hob2 hl1 hmc
              obtain ⟨rfl, m, vA, vc, X, lv1, L1, rfl, hl1, hmc, HM, HPI, HOP⟩ := hcut
              have hm2 : m ≤ 20100 := by
                have h9 := HPI.out.pl.len
                have h8 := HM.out
                omega
              go_wp2_with fail
              refine (hnext_r w wc hb tb mb lv1 L1 HPI.out.hr).mono ?_
              rintro e w3 ⟨za, zA, zn, zc, zb, zf, zt, zw, okn, rfl, haim, hb3, hres⟩
              have HPI3 := hide (HPI.out.below hb3)
              have HOP3 := hide (HOP.out.below hb3 HOP.out.lt)
              have HZK := hide haim.key
              have HRS := hide hres
              clear haim hb3 HPI HOP hres
              have HPIA : Hid (∀ o, PI w (w3.alloc o) hb tb mb lv1 L1 (.slice vA m vc) X ∧ Blk (w3.alloc o) ob opT16 #[.int .i64 ok, .int .i64 now, .slice tA tn tc] ∧ KeyIn (w3.alloc o) (w3.alloc o).heap.size ⟨za, .slice zA zn zc, zb, zf, zt, zw⟩) := fun o => ⟨HPI3.out.alloc o, HOP3.out.alloc o, (HZK.out.1.alloc o).sl, HZK.out.2.1⟩
              have HNB : Hid (Blk (w3.alloc (.cells #[.int .i64 za, .slice zA zn zc, .int .i64 zf, .int .i64 zt, .int .i64 zw] tmT)) w3.heap.size tmT #[.int .i64 za, .slice zA zn zc, .int .i64 zf, .int .i64 zt, .int .i64 zw]) := Blk.new w3 _ _
              have hml : L1.length = m := by
                have h9 := HPI3.out.pl.len
                have h8 := HM.out
                omega
              go_upto_region 47 with fail
              have HQ4 := hide (HPIA.out (.cells #[.int .i64 za, .slice zA zn zc, .int .i64 zf, .int .i64 zt, .int .i64 zw] tmT))
              change Code.wp _ _ _ _ (w3.alloc (.cells #[.int .i64 za, .slice zA zn zc, .int .i64 zf, .int .i64 zt, .int .i64 zw] tmT))
              generalize w3.alloc (.cells #[.int .i64 za, .slice zA zn zc, .int .i64 zf, .int .i64 zt, .int .i64 zw] tmT) = w4 at *
              obtain ⟨nb, hnb⟩ : ∃ nb, nb = w3.heap.size := ⟨_, rfl⟩
              rw [← hnb] at HNB ⊢
              clear hnb HPIA HPI3 HOP3 HZK
              have hnl := HNB.out.lt
              have hz4 := HQ4.out.1.hr.bl.size
              go_cut [227] from 198 to 227 (fun pc wx => pc = .bool false ∧ Hid (Below w4.heap.size w4 wx))
              case first =>
                exact plays16_ck w w4 hb tb mb ob nb m vc zn zc ok now za zf zt zw okn zA zb vA tA tn tc X lv1 L1 hm2 HM hml hz4 hnl HQ4 HNB HRS.out _ _ _ (by assumption) (by assumption)
              case rest =>
                obtain ⟨rfl, HB⟩ := hcut
                have HQ5 : Hid (PI w wc hb tb mb lv1 L1 (.slice vA m vc) X ∧ Blk wc ob opT16 #[.int .i64 ok, .int .i64 now, .slice tA tn tc]) := ⟨HQ4.out.1.below HB.out, HQ4.out.2.1.below HB.out HQ4.out.2.1.lt⟩
                clear HB HNB HQ4 hnl hz4 HRS hml
                have d2 : wc.cell? ⟨ob, 2, none⟩ = some (.slice tA tn tc) := HQ5.out.2.cell 2
                have hobl := HQ5.out.2.lt
                go_upto_block 9 with fail
                refine plays16_of w wc hb tb mb ob m vc tc tn ok now vA tA X ots lv1 L1 hm2 HM htc HTN HTQ HOS h100 HQ5 _ (fun a' w' h => ?_)
                obtain ⟨u2, h⟩ := h
                obtain ⟨u25, h⟩ := h
                obtain ⟨u26, h⟩ := h
                obtain ⟨u28, h⟩ := h
                obtain ⟨u231, h⟩ := h
                obtain ⟨u232, h⟩ := h
                obtain ⟨u233, h⟩ := h
                obtain ⟨u234, h⟩ := h
                obtain ⟨u235, h⟩ := h
                obtain ⟨u236, h⟩ := h
                obtain ⟨u237, h⟩ := h
                obtain ⟨u238, h⟩ := h
                obtain ⟨u239, h⟩ := h
                obtain ⟨u240, h⟩ := h
                obtain ⟨u241, h⟩ := h
                obtain ⟨u242, h⟩ := h
                obtain ⟨u243, h⟩ := h
                obtain ⟨u244, h⟩ := h
                obtain ⟨u245, h⟩ := h
                obtain ⟨u246, h⟩ := h
                obtain ⟨u247, h⟩ := h
                obtain ⟨u248, h⟩ := h
                obtain ⟨u249, h⟩ := h
                obtain ⟨u250, h⟩ := h
                obtain ⟨u251, h⟩ := h
                obtain ⟨u252, h⟩ := h
                obtain ⟨u253, h⟩ := h
                obtain ⟨u254, h⟩ := h
                obtain ⟨u255, h⟩ := h
                obtain ⟨u256, h⟩ := h
                obtain ⟨u257, h⟩ := h
                obtain ⟨HB, ha⟩ := h
                subst ha
                have HPI9 := hide (HQ5.out.1.below HB.out)
                clear HQ5 HB
                go_wp2_with fail
                go_roundw
                case rel => exact ⟨k + 1, m, vA, vc, X, lv1, L1, by omega, by simp, rfl, hl1, hmc, HM.out, HPI9.out⟩
                case measure => simp [intOf]; omega
        · have hg2 : (100 : Int) < (tn : Int) := by omega
          have HPI2 := hide (HPI.out.alloc (.cells #[.int .i64 ok, .int .i64 now, .slice tA tn tc] opT16))
          go_wp2_with fail
          refine (awake16 _).mono ?_
          rintro e w3 ⟨rfl, hb3⟩
          have HB3 := hide (HPI2.out.hr.bl.trans (hb3.mono HPI2.out.hr.bl.size))
          clear hb3
          go_wp2_with fail
          go_ret
          exact ⟨rfl, HB3.out⟩
      · go_wp2_with fail
        refine (awake16 wr).mono ?_
        rintro e w3 ⟨rfl, hb3⟩
        have HB3 := hide (HPI.out.hr.bl.trans (hb3.mono HPI.out.hr.bl.size))
        clear hb3
        go_wp2_with fail
        go_ret
        exact ⟨rfl, HB3.out⟩
  · have hg : (200 : Int) < (n : Int) := by omega
    go_wp2_with fail
    refine (awake16 w1).mono ?_
    rintro e w3 ⟨rfl, hb3⟩
    have HB3 := hide (H1.out.bl.trans (hb3.mono H1.out.bl.size))
    clear hb3
    go_wp2_with fail
    go_ret
    exact ⟨rfl, HB3.out⟩

end Go.Proofs.Ytogelnljkdcajaa

namespace Go.Proofs.Ytogelnljkdcajaa
open Go.RowKit Go.ChangeShapes Go.WideShapes Go.Deep
set_option linter.unusedVariables false
set_option linter.unusedSimpArgs false

section
variable {H : Type} (enc : TypeId × Value → H) (P : Program) (w : World)

/-- What reads as a datum of type t are the cells E a of some a with Q a. -/
def Reads1 (t : TypeId) {α : Type} (E : α → List Value) (Q : α → Prop) : Prop :=
  ∀ (fuel : Nat) (cs : List Value) (x : DataW H × List MemPlace), DataW.trod enc P w 0 (fun _ => true) true fuel t cs = some x → ∃ a, cs = E a ∧ Q a

/-- The same for the fields fs of a struct, those from cell off on. -/
def ReadsFs (fs : List Field) (off tot : Nat) {α : Type} (E : α → List Value) (Q : α → Prop) : Prop :=
  ∀ cs : List Value, (∀ f ∈ fs, ∃ n y, DataW.trod enc P w 0 (fun _ => true) true n f.type ((cs.drop f.offset).take (P.cellsOf f.type)) = some y) → ∃ a, (cs.drop off).take tot = E a ∧ Q a
end

section
variable {H : Type} {enc : TypeId × Value → H} {P : Program} {w : World} {t : TypeId} {α β : Type} {E : α → List Value} {Q : α → Prop} {E' : β → List Value} {Q' : β → Prop}
theorem Reads1.map (h : Reads1 enc P w t E Q) (f : α → β) (hE : ∀ a, E a = E' (f a)) (hQ : ∀ a, Q a → Q' (f a)) : Reads1 enc P w t E' Q' := by
  intro fuel cs x hx
  obtain ⟨a, rfl, ha⟩ := h fuel cs x hx
  exact ⟨f a, hE a, hQ a ha⟩
theorem reads_int {k : IntKind} (ht : P.underlying t = some (.int k)) : Reads1 enc P w t (fun n : Int => [.int k n]) (fun n => (Lit.int k n).wf = true) := by
  intro fuel cs x hx
  obtain ⟨n, rfl, _, hn⟩ := DataW.trod_int ht hx
  exact ⟨n, rfl, hn⟩
theorem reads_bool (ht : P.underlying t = some .bool) : Reads1 enc P w t (fun b : Bool => [.bool b]) (fun _ => True) := by
  intro fuel cs x hx
  obtain ⟨n, rfl, _⟩ := DataW.trod_bool ht hx
  exact ⟨n, rfl, trivial⟩
theorem reads_fnil (off : Nat) : ReadsFs enc P w [] off 0 (fun _ : Unit => []) (fun _ => True) := fun cs _ => ⟨(), by simp, trivial⟩
theorem reads_fcons {f : Field} {fs : List Field} {off tot n : Nat} (h1 : Reads1 enc P w f.type E Q) (ho : f.offset = off) (hc : P.cellsOf f.type = n) (h2 : ReadsFs enc P w fs (off + n) tot E' Q') :
    ReadsFs enc P w (f :: fs) off (n + tot) (fun p : α × β => E p.1 ++ E' p.2) (fun p => Q p.1 ∧ Q' p.2) := by
  intro cs hall
  obtain ⟨m, y, hy⟩ := hall f (by simp)
  rw [ho, hc] at hy
  obtain ⟨a, ha, qa⟩ := h1 m _ y hy
  obtain ⟨b, hb, qb⟩ := h2 cs (fun g hg => hall g (by simp [hg]))
  refine ⟨(a, b), ?_, qa, qb⟩
  simp only
  rw [← ha, ← hb, ← List.drop_drop, List.take_add]
theorem reads_f1 {f : Field} {fs : List Field} {off tot : Nat} (h1 : Reads1 enc P w f.type E Q) (ho : f.offset = off) (hc : P.cellsOf f.type = 1) (h2 : ReadsFs enc P w fs (off + 1) tot E' Q') :
    ReadsFs enc P w (f :: fs) off (1 + tot) (fun p : α × β => E p.1 ++ E' p.2) (fun p => Q p.1 ∧ Q' p.2) := reads_fcons h1 ho hc h2
theorem reads_struct {fs : Array Field} (ht : P.underlying t = some (.struct fs)) {tot : Nat} (hc : P.cellsOf t = tot) (h : ReadsFs enc P w fs.toList 0 tot E Q) : Reads1 enc P w t E Q := by
  intro fuel cs x hx
  obtain ⟨xs, n, _, _, hl, hxl, hf⟩ := DataW.trod_struct ht hx
  obtain ⟨a, ha, qa⟩ := h cs (fun f hf' => by
    obtain ⟨i, hi, he⟩ := List.getElem_of_mem hf'
    have h1 : fs[i]? = some f := by
      rw [← he]
      simp
    have h2 := hf i f h1
    have h3 : i < xs.length := by
      rw [hxl]
      simpa using hi
    rw [List.getElem?_eq_getElem h3] at h2
    exact ⟨n, _, h2⟩)
  refine ⟨a, ?_, qa⟩
  rw [← ha, List.drop_zero, List.take_of_length_le (by omega)]

theorem choose_list {γ : Type} (R : Nat → γ → Prop) : ∀ n, (∀ k, k < n → ∃ a, R k a) → ∃ l : List γ, l.length = n ∧ ∀ k (hk : k < l.length), R k l[k]
  | 0, _ => ⟨[], rfl, fun k hk => by simp at hk⟩
  | n + 1, h => by
    obtain ⟨l, hl, hr⟩ := choose_list R n (fun k hk => h k (by omega))
    obtain ⟨a, ha⟩ := h n (by omega)
    refine ⟨l ++ [a], by simp [hl], fun k hk => ?_⟩
    by_cases hkn : k < l.length
    · rw [List.getElem_append_left hkn]
      exact hr k hkn
    · have : k = n := by simp at hk; omega
      subst this
      subst hl
      simpa using ha

theorem flat_at {γ : Type} (f : γ → List Value) (sz : Nat) (hf : ∀ x, (f x).length = sz) (xs : List γ) (j : Nat) (u : Value) (hj : (xs.flatMap f)[j]? = some u) :
    ∃ (k : Nat) (hk : k < xs.length) (i : Nat), i < sz ∧ j = k * sz + i ∧ (f xs[k])[i]? = some u := by
  have hlt : j < xs.length * sz := by
    rw [← flat_len f sz hf]
    exact (List.getElem?_eq_some_iff.1 hj).1
  have hs : 0 < sz := by
    rcases Nat.eq_zero_or_pos sz with h | h
    · subst h; simp at hlt
    · exact h
  have hk : j / sz < xs.length := (Nat.div_lt_iff_lt_mul hs).2 hlt
  refine ⟨j / sz, hk, j % sz, Nat.mod_lt _ hs, ?_, ?_⟩
  · rw [Nat.mul_comm]; exact (Nat.div_add_mod j sz).symm
  · rw [← part_of f sz hf xs _ hk, List.getElem?_take, if_pos (Nat.mod_lt _ hs), List.getElem?_drop]
    rw [Nat.mul_comm, Nat.div_add_mod]
    exact hj

/-- a slice of what reads -/
theorem reads_slice {e : TypeId} {sz : Nat} (ht : P.underlying t = some (.slice e)) (hc : P.cellsOf e = sz) (hE : ∀ a, (E a).length = sz) (hs : 0 < sz) (h : Reads1 enc P w e E Q) :
    Reads1 enc P w t (fun s : Value × List α => [s.1]) (fun s => Sl w w.heap.size s.1 sz s.2.length (s.2.flatMap E) ∧ ∀ a ∈ s.2, Q a) := by
  intro fuel cs x hx
  rcases open_slice ht hx with ⟨rfl, _⟩ | ⟨a, len, cap, m, n, D, Pl, rfl, _, hl, hm, hmm, _, hel⟩
  · exact ⟨(.slice none 0 0, []), rfl, Sl.nil _ _ _, by simp⟩
  · have hm2 : len ≤ m := by rw [hmm]; split <;> omega
    obtain ⟨xs, hxl, hxs⟩ := choose_list (fun k a' => Q a' ∧ ∀ i, i < sz → w.cell? ((a.add (k * sz)).add i) = (E a')[i]?) len (fun k hk => by
      obtain ⟨cs', h1, h2⟩ := hel k (by omega)
      rw [hc] at h1
      obtain ⟨_, h3, h4⟩ := World.cells?_some h1
      obtain ⟨a', rfl, qa⟩ := h n cs' _ h2
      exact ⟨a', qa, h4⟩)
    refine ⟨(.slice (some a) len cap, xs), rfl, ?_, ?_⟩
    · refine ⟨by rw [flat_len E sz hE], some a, cap, by rw [hxl], by show xs.length ≤ cap; omega, by unfold maxLen at hm; omega, fun hn => ⟨a, rfl, ?_, ?_⟩⟩
      · have h0 := (hxs 0 (by omega)).2 0 hs
        rw [add_add'] at h0
        have h1 : ∃ u, (E xs[0])[0]? = some u := ⟨_, List.getElem?_eq_getElem (by rw [hE]; exact hs)⟩
        obtain ⟨u, hu⟩ := h1
        rw [hu] at h0
        have := World.block_lt_of_cell? w _ h0
        rwa [add_blk] at this
      · intro j u hu
        obtain ⟨k, hk, i, hi, rfl, hv⟩ := flat_at E sz hE xs j u hu
        have := (hxs k hk).2 i hi
        rw [hv, add_add'] at this
        exact this
    · intro a' ha'
      obtain ⟨k, hk, rfl⟩ := List.getElem_of_mem ha'
      exact (hxs k hk).1
/-- a parameter that is a slice -/
theorem open_pslice {e : TypeId} {r : Reach} {b0 : Nat} {v : Value} {d : DataW H} {p : List MemPlace} {Q : Value × List α → Prop} (ht : P.underlying t = some (.slice e)) (hv : Value.okWide P w r b0 t v)
    (h0 : DataW.Trod enc P w 0 (fun _ => true) true t v d p) (h : Reads1 enc P w t (fun s : Value × List α => [s.1]) Q) : ∃ s, v = s.1 ∧ Q s := by
  obtain ⟨A, len, cap, rfl⟩ := okWide_slice ht hv
  obtain ⟨fuel, hf⟩ := h0
  obtain ⟨s, hs, hq⟩ := h fuel _ _ hf
  exact ⟨s, by simpa [Value.cells] using hs, hq⟩
/-- a parameter that is a struct -/
theorem open_pstruct {fs : Array Field} {r : Reach} {b0 : Nat} {v : Value} {d : DataW H} {p : List MemPlace} (ht : P.underlying t = some (.struct fs)) (hv : Value.okWide P w r b0 t v)
    (h0 : DataW.Trod enc P w 0 (fun _ => true) true t v d p) (h : Reads1 enc P w t E Q) : ∃ a, v = .agg (E a).toArray ∧ Q a := by
  obtain ⟨cs, rfl, _⟩ := okWide_struct ht hv
  obtain ⟨fuel, hf⟩ := h0
  obtain ⟨a, ha, hq⟩ := h fuel _ _ hf
  exact ⟨a, by simp only [Value.cells] at ha; rw [← ha], hq⟩
end

end Go.Proofs.Ytogelnljkdcajaa

namespace Go.Proofs.Ytogelnljkdcajaa
open Go.RowKit Go.ChangeShapes Go.WideShapes Go.Deep
set_option linter.unusedVariables false
set_option linter.unusedSimpArgs false

section
variable {H : Type} (enc : TypeId × Value → H) (P : Program) (w : World)
/-- all that weighs in a datum is within the form's reach -/
def Light (t : TypeId) (d : DataW H) : Prop := ∀ n ∈ d.weights P t, n ≤ reachBytes
/-- What reads as a datum of type t are the cells E a of some a; Q a, if the datum is light; its bulk is at least m a. -/
def Reads2 (t : TypeId) {α : Type} (E : α → List Value) (Q : α → Prop) (m : α → Nat) : Prop :=
  ∀ (fuel : Nat) (cs : List Value) (x : DataW H × List MemPlace), DataW.trod enc P w 0 (fun _ => true) true fuel t cs = some x → ∃ a, cs = E a ∧ (Light P t x.1 → Q a) ∧ m a ≤ Rows.uptoBulk x.1
def ReadsFs2 (fs : List Field) (off tot : Nat) {α : Type} (E : α → List Value) (Q : α → Prop) (m : α → Nat) : Prop :=
  ∀ (cs : List Value) (ys : List (DataW H × List MemPlace)), ys.length = fs.length → (∀ (i : Nat) (f : Field), fs[i]? = some f → ∃ n, DataW.trod enc P w 0 (fun _ => true) true n f.type ((cs.drop f.offset).take (P.cellsOf f.type)) = ys[i]?) →
    ∃ a, (cs.drop off).take tot = E a ∧ ((∀ n ∈ DataW.weightsEach P (fs.map (·.type)) (ys.map (·.1)), n ≤ reachBytes) → Q a) ∧ m a ≤ Rows.uptoBulkAll (ys.map (·.1))
end

theorem bulk_one {H : Type} (d : DataW H) : 1 ≤ Rows.uptoBulk d := by
  cases d with
  | lit l => cases l <;> simp [Rows.uptoBulk]
  | nil => simp [Rows.uptoBulk]
  | ptr d => simp [Rows.uptoBulk]
  | slice elems spare => simp [Rows.uptoBulk]
  | agg parts => simp [Rows.uptoBulk]
  | iface t d => simp [Rows.uptoBulk]
  | map entries => simp [Rows.uptoBulk]
  | held h => simp [Rows.uptoBulk]

section
variable {H : Type} {enc : TypeId × Value → H} {P : Program} {w : World} {t : TypeId} {α β : Type} {E : α → List Value} {Q : α → Prop} {m : α → Nat} {E' : β → List Value} {Q' : β → Prop} {m' : β → Nat}
theorem Reads2.map (h : Reads2 enc P w t E Q m) (f : α → β) (hE : ∀ a, E a = E' (f a)) (hQ : ∀ a, Q a → Q' (f a)) (hm : ∀ a, m' (f a) ≤ m a) : Reads2 enc P w t E' Q' m' := by
  intro fuel cs x hx
  obtain ⟨a, rfl, ha, hb⟩ := h fuel cs x hx
  exact ⟨f a, hE a, fun hl => hQ a (ha hl), Nat.le_trans (hm a) hb⟩
theorem reads2_int {k : IntKind} (ht : P.underlying t = some (.int k)) : Reads2 enc P w t (fun n : Int => [.int k n]) (fun n => (Lit.int k n).wf = true) (fun _ => 1) := by
  intro fuel cs x hx
  obtain ⟨n, rfl, rfl, hn⟩ := DataW.trod_int ht hx
  exact ⟨n, rfl, fun _ => hn, bulk_one _⟩
theorem reads2_bool (ht : P.underlying t = some .bool) : Reads2 enc P w t (fun b : Bool => [.bool b]) (fun _ => True) (fun _ => 1) := by
  intro fuel cs x hx
  obtain ⟨n, rfl, rfl⟩ := DataW.trod_bool ht hx
  exact ⟨n, rfl, fun _ => trivial, bulk_one _⟩
theorem reads2_fnil (off : Nat) : ReadsFs2 enc P w [] off 0 (fun _ : Unit => []) (fun _ => True) (fun _ => 0) := fun cs ys _ _ => ⟨(), by simp, fun _ => trivial, Nat.zero_le _⟩
theorem reads2_fcons {f : Field} {fs : List Field} {off tot n : Nat} (h1 : Reads2 enc P w f.type E Q m) (ho : f.offset = off) (hc : P.cellsOf f.type = n) (h2 : ReadsFs2 enc P w fs (off + n) tot E' Q' m') :
    ReadsFs2 enc P w (f :: fs) off (n + tot) (fun p : α × β => E p.1 ++ E' p.2) (fun p => Q p.1 ∧ Q' p.2) (fun p => m p.1 + m' p.2) := by
  intro cs ys hl hall
  match ys, hl with
  | y :: ys, hl =>
    obtain ⟨k, hy⟩ := hall 0 f rfl
    rw [ho, hc] at hy
    obtain ⟨a, ha, qa, ma⟩ := h1 k _ y hy
    obtain ⟨b, hb, qb, mb⟩ := h2 cs ys (by simpa using hl) (fun i g hg => hall (i + 1) g (by simpa using hg))
    refine ⟨(a, b), ?_, fun hw => ⟨qa (fun n hn => hw n ?_), qb (fun n hn => hw n ?_)⟩, ?_⟩
    · simp only
      rw [← ha, ← hb, ← List.drop_drop, List.take_add]
    · simp only [List.map_cons, DataW.weightsEach]
      exact List.mem_append_left _ hn
    · simp only [List.map_cons, DataW.weightsEach]
      exact List.mem_append_right _ hn
    · simp only [List.map_cons, Rows.uptoBulkAll]
      omega
theorem reads2_f1 {f : Field} {fs : List Field} {off tot : Nat} (h1 : Reads2 enc P w f.type E Q m) (ho : f.offset = off) (hc : P.cellsOf f.type = 1) (h2 : ReadsFs2 enc P w fs (off + 1) tot E' Q' m') :
    ReadsFs2 enc P w (f :: fs) off (1 + tot) (fun p : α × β => E p.1 ++ E' p.2) (fun p => Q p.1 ∧ Q' p.2) (fun p => m p.1 + m' p.2) := reads2_fcons h1 ho hc h2
theorem reads2_struct {fs : Array Field} (ht : P.underlying t = some (.struct fs)) {tot : Nat} (hc : P.cellsOf t = tot) (h : ReadsFs2 enc P w fs.toList 0 tot E Q m) : Reads2 enc P w t E Q (fun a => m a + 1) := by
  intro fuel cs x hx
  obtain ⟨xs, n, _, rfl, hl, hxl, hf⟩ := DataW.trod_struct ht hx
  obtain ⟨a, ha, qa, ma⟩ := h cs xs (by rw [hxl]; simp) (fun i f hf' => ⟨n, hf i f (by simpa using hf')⟩)
  refine ⟨a, ?_, fun hw => qa (fun k hk => hw k ?_), ?_⟩
  · rw [← ha, List.drop_zero, List.take_of_length_le (by omega)]
  · simp only [DataW.weights, ht]
    exact hk
  · simp only [Rows.uptoBulk]
    omega

theorem bulk_sum {γ : Type} {H : Type} (m : γ → Nat) (D : Nat → DataW H) : ∀ (xs : List γ) (o : Nat), (∀ k (hk : k < xs.length), m xs[k] ≤ Rows.uptoBulk (D (o + k))) → (xs.map m).sum ≤ Rows.uptoBulkAll ((List.range' o xs.length).map D)
  | [], o, _ => by simp [Rows.uptoBulkAll]
  | x :: xs, o, h => by
    have h0 := h 0 (by simp)
    have h1 := bulk_sum m D xs (o + 1) (fun k hk => by
      have := h (k + 1) (by simpa using hk)
      simpa [Nat.add_assoc, Nat.add_comm 1 k] using this)
    simp only [List.map_cons, List.sum_cons, List.length_cons, List.range'_succ, Rows.uptoBulkAll]
    simp at h0
    omega
theorem mem_weightsAll {H : Type} {P : Program} {e : TypeId} {d : DataW H} : ∀ {l : List (DataW H)}, d ∈ l → ∀ n ∈ d.weights P e, n ∈ DataW.weightsAll P e l
  | [], h, _, _ => by cases h
  | x :: l, h, n, hn => by
    simp only [DataW.weightsAll]
    rcases List.mem_cons.1 h with rfl | h
    · exact List.mem_append_left _ hn
    · exact List.mem_append_right _ (mem_weightsAll h n hn)

/-- a slice of what reads; by_: the bytes of an element -/
theorem reads2_slice {e : TypeId} {sz by_ : Nat} (ht : P.underlying t = some (.slice e)) (hc : P.cellsOf e = sz) (hby : P.bytesOf e = by_) (hE : ∀ a, (E a).length = sz) (hs : 0 < sz) (h : Reads2 enc P w e E Q m) :
    Reads2 enc P w t (fun s : Value × List α => [s.1]) (fun s => Sl w w.heap.size s.1 sz s.2.length (s.2.flatMap E) ∧ s.2.length * by_ ≤ 140737488351232 ∧ ∀ a ∈ s.2, Q a) (fun s => (s.2.map m).sum + 1) := by
  intro fuel cs x hx
  rcases open_slice ht hx with ⟨rfl, rfl⟩ | ⟨a, len, cap, mm, n, D, Pl, rfl, _, hl, hm, hmm, rfl, hel⟩
  · exact ⟨(.slice none 0 0, []), rfl, fun _ => ⟨Sl.nil _ _ _, by simp, by simp⟩, by simp [Rows.uptoBulk]⟩
  · have hm2 : len ≤ mm := by rw [hmm]; split <;> omega
    obtain ⟨xs, hxl, hxs⟩ := choose_list (fun k a' => ((Light P e (D k) → Q a') ∧ m a' ≤ Rows.uptoBulk (D k)) ∧ ∀ i, i < sz → w.cell? ((a.add (k * sz)).add i) = (E a')[i]?) len (fun k hk => by
      obtain ⟨cs', h1, h2⟩ := hel k (by omega)
      rw [hc] at h1
      obtain ⟨_, h3, h4⟩ := World.cells?_some h1
      obtain ⟨a', rfl, qa, ma⟩ := h n cs' _ h2
      exact ⟨a', ⟨qa, ma⟩, h4⟩)
    refine ⟨(.slice (some a) len cap, xs), rfl, fun hw => ⟨?_, ?_, ?_⟩, ?_⟩
    · refine ⟨by rw [flat_len E sz hE], some a, cap, by rw [hxl], by show xs.length ≤ cap; omega, by unfold maxLen at hm; omega, fun hn => ⟨a, rfl, ?_, ?_⟩⟩
      · have h0 := (hxs 0 (by omega)).2 0 hs
        rw [add_add'] at h0
        have h1 : ∃ u, (E xs[0])[0]? = some u := ⟨_, List.getElem?_eq_getElem (by rw [hE]; exact hs)⟩
        obtain ⟨u, hu⟩ := h1
        rw [hu] at h0
        have := World.block_lt_of_cell? w _ h0
        rwa [add_blk] at this
      · intro j u hu
        obtain ⟨k, hk, i, hi, rfl, hv⟩ := flat_at E sz hE xs j u hu
        have := (hxs k hk).2 i hi
        rw [hv, add_add'] at this
        exact this
    · have h1 := hw ((((List.range len).map D).length + ((List.range (mm - len)).map fun j => D (len + j)).length) * P.bytesOf e) (by simp only [DataW.weights, ht]; exact List.mem_cons_self)
      have h2 : len * by_ ≤ (((List.range len).map D).length + ((List.range (mm - len)).map fun j => D (len + j)).length) * P.bytesOf e := by
        rw [hby]
        exact Nat.mul_le_mul_right _ (by simp)
      have h3 : reachBytes = 140737488351232 := rfl
      show xs.length * by_ ≤ _
      rw [hxl]
      omega
    · intro a' ha'
      obtain ⟨k, hk, rfl⟩ := List.getElem_of_mem ha'
      refine (hxs k hk).1.1 (fun n hn => hw n ?_)
      simp only [DataW.weights, ht]
      refine List.mem_cons_of_mem _ (List.mem_append_left _ (mem_weightsAll (d := D k) ?_ n hn))
      simp
      exact ⟨k, by rw [← hxl]; exact hk, rfl⟩
    · have h1 := bulk_sum m D xs 0 (fun k hk => by simpa using (hxs k hk).1.2)
      rw [hxl, ← List.range_eq_range'] at h1
      simp only [Rows.uptoBulk]
      omega
/-- a parameter that is a slice -/
theorem open_pslice2 {e : TypeId} {r : Reach} {b0 : Nat} {v : Value} {d : DataW H} {p : List MemPlace} {Q : Value × List α → Prop} {m : Value × List α → Nat} (ht : P.underlying t = some (.slice e)) (hv : Value.okWide P w r b0 t v)
    (h0 : DataW.Trod enc P w 0 (fun _ => true) true t v d p) (h : Reads2 enc P w t (fun s : Value × List α => [s.1]) Q m) (hl : Light P t d) : ∃ s, v = s.1 ∧ Q s ∧ m s ≤ Rows.uptoBulk d := by
  obtain ⟨A, len, cap, rfl⟩ := okWide_slice ht hv
  obtain ⟨fuel, hf⟩ := h0
  obtain ⟨s, hs, hq, hm⟩ := h fuel _ _ hf
  exact ⟨s, by simpa [Value.cells] using hs, hq hl, hm⟩
/-- a parameter that is a struct -/
theorem open_pstruct2 {fs : Array Field} {r : Reach} {b0 : Nat} {v : Value} {d : DataW H} {p : List MemPlace} (ht : P.underlying t = some (.struct fs)) (hv : Value.okWide P w r b0 t v)
    (h0 : DataW.Trod enc P w 0 (fun _ => true) true t v d p) (h : Reads2 enc P w t E Q m) (hl : Light P t d) : ∃ a, v = .agg (E a).toArray ∧ Q a ∧ m a ≤ Rows.uptoBulk d := by
  obtain ⟨cs, rfl, _⟩ := okWide_struct ht hv
  obtain ⟨fuel, hf⟩ := h0
  obtain ⟨a, ha, hq, hm⟩ := h fuel _ _ hf
  exact ⟨a, by simp only [Value.cells] at ha; rw [← ha], hq hl, hm⟩
theorem light_of {ts : List TypeId} {ds : List (DataW H)} (hsz : (DataW.weightsEach P ts ds).all (· ≤ reachBytes) = true) (j : Nat) {t : TypeId} {d : DataW H} (ht : ts[j]? = some t) (hd : ds[j]? = some d) : Light P t d := by
  intro n hn
  have h := List.all_eq_true.1 hsz n (DataW.weights_mem_each ht hd n hn)
  simpa using h
end

end Go.Proofs.Ytogelnljkdcajaa

namespace Go.Proofs.Ytogelnljkdcajaa
open Go.RowKit Go.ChangeShapes Go.WideShapes Go.Deep
set_option linter.unusedVariables false
set_option linter.unusedSimpArgs false

theorem ones_sum {α : Type} (l : List α) : (l.map fun _ => 1).sum = l.length := by
  induction l with
  | nil => rfl
  | cons x l ih => rw [List.map_cons, List.sum_cons, ih, List.length_cons]; omega
section
variable {H : Type} (enc : TypeId × Value → H) (w : World)
theorem rd2_bytes : Reads2 enc Try.prog w 22 (fun r : Value × List Int => [r.1]) (fun r => Sl w w.heap.size r.1 1 r.2.length (bys r.2) ∧ r.2.length ≤ 140737488351232 ∧ Bytes8 r.2) (fun r => r.2.length + 1) :=
  Reads2.map (Q := fun s : Value × List Int => Sl w w.heap.size s.1 1 s.2.length (s.2.flatMap fun n : Int => [Value.int .u8 n]) ∧ s.2.length * 1 ≤ 140737488351232 ∧ ∀ a ∈ s.2, (Lit.int .u8 a).wf = true) (m := fun s => (s.2.map fun _ => 1).sum + 1)
    (reads2_slice (sz := 1) (by_ := 1) (E := fun n : Int => [.int .u8 n]) Try.underlying22 (by kernel_rfl) (by kernel_rfl) (fun _ => rfl) (by omega) (reads2_int (by kernel_rfl))) id (fun _ => rfl)
    (fun s h => ⟨h.1, by have := h.2.1; show s.2.length ≤ _; omega, fun c hc => by
      have h9 := h.2.2 c hc
      simpa [Lit.wf, IntKind.min, IntKind.max, IntKind.signed, IntKind.bits] using h9⟩) (fun s => by rw [ones_sum]; exact Nat.le_refl _)
theorem rd2_win : Reads2 enc Try.prog w 24 Win.cells (fun _ => True) (fun _ => 1) :=
  (reads2_struct Try.underlying24 (by kernel_rfl)
    (reads2_f1 (reads2_int Try.underlying3) rfl (by kernel_rfl) (reads2_f1 (reads2_int Try.underlying3) rfl (by kernel_rfl) (reads2_fnil _)))).map
    (fun p => ⟨p.1, p.2.1⟩) (fun _ => rfl) (fun _ _ => trivial) (fun _ => by omega)
theorem rd2_tm : Reads2 enc Try.prog w 26 TV.cells (TmQ w) (fun x => x.kb.length + 1) :=
  (reads2_struct Try.underlying26 (by kernel_rfl)
    (reads2_f1 (reads2_int Try.underlying3) rfl (by kernel_rfl) (reads2_f1 (rd2_bytes enc w) rfl (by kernel_rfl) (reads2_fcons (n := 2) (rd2_win enc w) rfl (by kernel_rfl) (reads2_f1 (reads2_int Try.underlying3) rfl (by kernel_rfl) (reads2_fnil _)))))).map
    (fun p => ⟨p.1, p.2.1.1, p.2.1.2, p.2.2.1.f, p.2.2.1.t, p.2.2.2.1⟩) (fun _ => rfl) (fun _ h => ⟨⟨h.2.1.1, h.2.1.2.2⟩, Nat.le_trans h.2.1.2.1 (by decide)⟩) (fun p => by show p.2.1.2.length + 1 ≤ _; omega)
theorem rd2_tms : Reads2 enc Try.prog w 27 (fun s : Value × List TV => [s.1]) (fun s => Sl w w.heap.size s.1 5 s.2.length (tms s.2) ∧ s.2.length * 56 ≤ 140737488351232 ∧ ∀ x ∈ s.2, TmQ w x) (fun s => (s.2.map fun x => x.kb.length + 1).sum + 1) :=
  (reads2_slice (E := TV.cells) Try.underlying27 (by kernel_rfl) (by kernel_rfl) TV.cells5 (by omega) (rd2_tm enc w)).map id (fun _ => rfl) (fun _ h => h) (fun s => Nat.le_refl _)
end

end Go.Proofs.Ytogelnljkdcajaa

namespace Go.Proofs.Ytogelnljkdcajaa
open Go.RowKit Go.ChangeShapes Go.WideShapes Go.Deep
set_option linter.unusedVariables false
set_option linter.unusedSimpArgs false

section
variable {H : Type} (enc : TypeId × Value → H) (w : World)
theorem rd2_op16 : Reads2 enc Try.prog w 55 Op16.cells (Op16Q w) (fun o => (o.ts.map fun x => x.kb.length + 1).sum + 1) :=
  (reads2_struct Try.underlying55 (by kernel_rfl)
    (reads2_f1 (reads2_int Try.underlying3) rfl (by kernel_rfl) (reads2_f1 (reads2_int Try.underlying3) rfl (by kernel_rfl) (reads2_f1 (rd2_tms enc w) rfl (by kernel_rfl) (reads2_fnil _))))).map
    (fun p => ⟨p.1, p.2.1, p.2.2.1.1, p.2.2.1.2⟩) (fun _ => rfl) (fun _ h => ⟨h.2.2.1.1, h.2.2.1.2.2⟩) (fun p => by show (p.2.2.1.2.map fun x => x.kb.length + 1).sum + 1 ≤ _; omega)
theorem rd2_ops16 : Reads2 enc Try.prog w 53 (fun s : Value × List Op16 => [s.1]) (fun s => Sl w w.heap.size s.1 3 s.2.length (ops16 s.2) ∧ s.2.length * 40 ≤ 140737488351232 ∧ ∀ o ∈ s.2, Op16Q w o) (fun s => (s.2.map fun o => (o.ts.map fun x => x.kb.length + 1).sum + 1).sum + 1) :=
  (reads2_slice (E := Op16.cells) Try.underlying53 (by kernel_rfl) (by kernel_rfl) (fun _ => rfl) (by omega) (rd2_op16 enc w)).map id (fun _ => rfl) (fun _ h => h) (fun s => Nat.le_refl _)
end
theorem plays16_walk (z : Value × List Op16) (w : World) (h : Sl w w.heap.size z.1 3 z.2.length (ops16 z.2) ∧ z.2.length * 40 ≤ 140737488351232 ∧ ∀ o ∈ z.2, Op16Q w o) :
    Calls Try.prog 6 #[z.1] w fun e w' => e = .returned (.bool true) ∧ Below w.heap.size w w' := plays16_ok z.1 z.2 z.2.length w h.1 rfl h.2.2

end Go.Proofs.Ytogelnljkdcajaa
