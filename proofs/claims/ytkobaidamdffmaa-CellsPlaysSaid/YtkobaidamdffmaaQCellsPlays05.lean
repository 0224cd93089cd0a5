/- cells: slices.AppendSeq, Collect, SortedFunc of places; Table.places. / Bytes that are only read (their block may bear a mark); []byte of a string. / cells.Table: Keys. -/
import Derived.Test.YtkobaidamdffmaaQCellsPlays04
import Derived.Test.YtkobaidamdffmaaQCellsPlays03
import Derived.Lib.ConvBytes

namespace Go.Proofs.Ytkobaidamdffmaa
open Go.RowKit Go.Sort
set_option linter.unusedVariables false
set_option linter.unusedSimpArgs false

section
variable {F : Fence} {n : Nat} {P : Program} {w : World} {t e sz by_ : Nat} {z : Value} {ops : Array Oper} {rest : List Oper} {o : Oper} {a : Act} {Q : Exit → Act → World → Prop}
theorem wpListIn_app (hgd : o.guard = none) (T : SlTy P t e sz by_ z) (s x : Operand) (ho : o.op = .call { callee := .builtin .append, args := #[s, x], argTypes := #[t, t] })
    (base : Nat) {v xv : Value} {m k B : Nat} {xs news : List Value} (hs : a.eval s = v) (hxv : a.eval x = xv) (hv : Go.Proofs.Ytkobaidamdffmaa.Own w base e sz v k xs) (hx : Sl w B xv sz m news) (h1 : ∀ u ∈ news, u.oneCell' = true)
    (hm : k + m ≤ 9223372036854775807) (hbytes : (k + m) * by_ ≤ 140737488355328) (hbase : base ≤ w.heap.size)
    (h : ∀ v' w', App w base e sz v (k + m) (xs ++ news) v' w' → wpListIn F n P ops Q rest (a.put o.dst v') w') : wpListIn F n P ops Q (o :: rest) a w := by
  refine wpListIn_plain hgd fun K' hK' => ?_
  obtain ⟨v', w', hr, h2⟩ := run_app T o.type base hv hx h1 hm hbytes hbase
  unfold Oper.wpIn
  refine ⟨?_, ?_⟩
  · simp [Oper.about, ho, resolve, Target.leads, Sem.run_pure]
  · rw [Oper.semAt_plain F _ _ (by rw [ho]; intro c hc'; cases hc')]
    simp only [execOp, ho, resolve, invoke, builtin, Sem.run_bind, Sem.run_pure, Result.andThen_ok, Result.andThen, List.map_toArray, List.map_cons, List.map_nil, hs, hxv, hr]
    exact hK' _ _ (h v' w' h2)
end
abbrev psT : Nat := 91
theorem tyP : SlTy Try.prog psT plT 3 32 (.agg #[.string ⟨#[]⟩, .int .i64 0, .int .i64 0]) := ⟨Try.underlying91, info_parts (by kernel_rfl), rfl, by omega⟩
theorem pls_ok (D : List PK) : ∀ u ∈ pls D, u.oneCell' = true := by
  intro u hu
  simp only [pls, List.mem_flatMap] at hu
  obtain ⟨p, _, hp⟩ := hu
  simp only [PK.cells, List.mem_cons, List.not_mem_nil, or_false] at hp
  rcases hp with rfl | rfl | rfl <;> rfl
theorem pls_app (C D : List PK) : pls (C ++ D) = pls C ++ pls D := List.flatMap_append ..

/-- between two rounds -/
def ApI (w : World) (pre : List PK) (W : World) : Prop := (∃ v, Boxed W w.heap.size psT v ∧ Go.Proofs.Ytkobaidamdffmaa.Own W w.heap.size plT 3 v pre.length (pls pre)) ∧ Below w.heap.size w W
theorem Own.grownC {w w' : World} {base e sz n : Nat} {v : Value} {xs : List Value} {row : Option Nat} (h : Go.Proofs.Ytkobaidamdffmaa.Own w base e sz v n xs) (hg : w.grownBy w' row) (hr : ∀ r, row = some r → ∃ o : Obj, w.heap[r]? = some o ∧ o.isCells = false) : Go.Proofs.Ytkobaidamdffmaa.Own w' base e sz v n xs :=
  h.to fun g hgb => hg.block g (h.lt g hgb).2 (fun e9 => by
    obtain ⟨o, ho, hc⟩ := hr g e9.symm
    obtain ⟨cs, hb⟩ := h.typed g hgb
    rw [show w.heap[g]? = _ from hb] at ho
    injection ho with ho
    rw [← ho] at hc
    cases hc)
theorem apI_own (w : World) (B : Nat) (hB : w.heap.size ≤ B) : OwnFrom B (ApI w) := fun s W W' row h hg hr => by
  obtain ⟨⟨v, hb, ho⟩, hbl⟩ := h
  refine ⟨⟨v, hb.kept hg (fun e => ?_), ho.grownC hg (fun r e => (hr r e).2)⟩, hbl.grown hg hbl.size (fun k e => Nat.le_trans hB (hr k e).1)⟩
  obtain ⟨_, o, ho', hc⟩ := hr _ e.symm
  rw [show W.heap[w.heap.size]? = _ from hb] at ho'
  injection ho' with ho'
  rw [← ho'] at hc
  cases hc

set_option maxRecDepth 100000 in
set_option maxHeartbeats 4000000 in
theorem pappend_in (n : Nat) (hn : 2 ≤ n) (g : Nat) (lb : Array Value) (eg : ∀ args w, (callFunc g args).run Try.prog w = .ok (.enter g args) w) (S : List PK → Prop) (N : Nat) (hN : N ≤ 1000000) (w : World)
    (hseq : SeqStopsK Fence.wide (n - 1) Try.prog g lb (fun x : PK => #[plV x]) KeepsWalks S (fun _ => True) N w) :
    CallsIn Fence.wide n Try.prog 82 #[.slice none 0 0, .func (.func g) #[] lb] w fun e w' => ∃ (v : Value) (ss : List PK), e = .returned v ∧ S ss ∧ Go.Proofs.Ytkobaidamdffmaa.Own w' w.heap.size plT 3 v ss.length (pls ss) ∧ Below w.heap.size w w' := by
  refine callsIn_of_wp_marks Try.func82 rfl trivial ?_ rfl
  simp only [Try.ntmps82, List.size_toArray, List.length_cons, List.length_nil, Nat.reduceAdd, Nat.reduceSub, Array.replicate_succ, Array.replicate_zero, List.push_toArray, List.append_toArray, List.nil_append, List.cons_append]
  have HSQ := hide hseq
  clear hseq
  gi_wp2
  have HZ : Hid ((w.alloc (.cells #[.slice none 0 0] psT)).heap.size = w.heap.size + 1 ∧ ApI w [] (w.alloc (.cells #[.slice none 0 0] psT))) := ⟨by simp, ⟨_, Boxed.new w psT _, Go.Proofs.Ytkobaidamdffmaa.Own.nil _ _ _ _⟩, (Below.refl _ _).alloc (Nat.le_refl _) _⟩
  have HB1 : Hid (Below w.heap.size w (w.alloc (.cells #[.slice none 0 0] psT))) := (Below.refl _ _).alloc (Nat.le_refl _) _
  generalize w.alloc (.cells #[.slice none 0 0] psT) = w1 at *
  refine wpIn_rangeFunc_ownH (w0 := w) rfl (by omega) (gf := g) (lb := lb) rfl trivial eg HSQ.out walksK_t walksK_b HB1.out (fun _ => rfl) (ApI w) (fun _ _ _ => False) (apI_own w _ (by rw [HZ.out.1]; omega)) (fun _ _ _ _ _ h _ _ => h.elim) HZ.out.2
    (fun x a' W => ∃ Bx, Blk W Bx plT #[.string (strOfNums x.b), .int .i64 x.f, .int .i64 x.t] ∧ a' = { tmps := #[.slice none 0 0, .func (.func g) #[] lb, .pointer (some ⟨w.heap.size, 0, none⟩), undef, .slice none 0 0, .pointer (some ⟨Bx, 0, none⟩), .func (.func g) #[] lb, plV x, undef, undef, undef, undef, undef], defers := [] })
    ?_ ?assign ?body ?done ?stop
  · intro x a' s W W' row h hg hr
    obtain ⟨Bx, hb, rfl⟩ := h
    refine ⟨Bx, (hg.block Bx hb.lt (fun e => ?_)).trans hb, rfl⟩
    obtain ⟨_, o, ho', hc⟩ := hr _ e.symm
    rw [show W.heap[Bx]? = _ from hb] at ho'
    injection ho' with ho'
    rw [← ho'] at hc
    cases hc
  case assign =>
    intro l pre x W K hi hK
    obtain ⟨xb, xf, xt, xo⟩ := x
    have HI := hide hi
    have HK := hide hK
    clear hi hK
    unfold plV at *
    gi_wp2_with (rw [Oper.semAt_eq _ _ _ (fun c h => by cases h)]; go_simp; try go_bits)
    exact HK.out _ _ ((KeepsOthers.alloc _ _).from _) (KeepsWalks.alloc _ _) (apI_own w w.heap.size (Nat.le_refl _) pre W _ none HI.out (World.grownBy_alloc W _ none) (fun r e => by cases e)) ⟨W.heap.size, Blk.new W plT _, rfl⟩
  case body =>
    intro l pre x a' W hl hlr hi hax hlt
    obtain ⟨Bx, hb, rfl⟩ := hax
    obtain ⟨⟨v, hbv, ho⟩, hbl⟩ := hi
    obtain ⟨vA, vc, rfl, hvc⟩ := ho.sl.form
    have HB := hide hb
    have HV := hide hbv
    have HO := hide ho
    have HL := hide hbl
    have hz := hbl.size
    have HX := hide x.ok.1
    have hpl : pre.length ≤ 1000000 := by omega
    clear hlr
    have c0 := hb.cell 0
    have c1 := hb.cell 1
    have c2 := hb.cell 2
    simp at c0 c1 c2
    have hbx := hb.lt
    have s0 := hbv.cell
    have hbs := hbv.lt
    have HSL : Hid (Sl (W.alloc (.cells #[.string (strOfNums x.b), .int .i64 x.f, .int .i64 x.t] plT)) (W.heap.size + 1) (.slice (some ⟨W.heap.size, 0, none⟩) 1 1) 3 1 (pls [x])) :=
      Sl.of_own (Own.new (n := 1) (sz := 3) (e := plT) (base := 0) W #[.string (strOfNums x.b), .int .i64 x.f, .int .i64 x.t] (by omega) (by omega) rfl) |>.mono (by simp)
    clear hb hbv ho hbl
    gi_wp2_with (first
      | (gi_at_builtin; refine wpListIn_app rfl tyP (.tmp 8) (.tmp 10) rfl w.heap.size (k := pre.length) (m := 1) (B := W.heap.size + 1) (xs := pls pre) (news := pls [x]) rfl rfl (by exact HO.out.alloc _) (by exact HSL.out) (pls_ok _) (by omega) (by omega) (by simp; omega) ?_; intro v' w3 ha
         have hb3 : Boxed w3 w.heap.size psT (.slice vA pre.length vc) := (ha.fr.block w.heap.size (by simp; omega) (fun e9 => HO.out.ne (show Blk W w.heap.size psT #[.slice vA pre.length vc] from HV.out) (by decide) e9)).trans ((Below.heap_alloc _ _ _ hbs).trans HV.out)
         have s3 := hb3.cell
         have y3 := hb3.frozen
         have hl3 := hb3.lt
         obtain ⟨nA, nc, rfl, hnc⟩ := ha.own.sl.form)
      | (rw [Oper.semAt_eq _ _ _ (fun c h => by cases h)]; go_simp; try go_bits))
    have hg : (W.alloc (.cells #[.string (strOfNums x.b), .int .i64 x.f, .int .i64 x.t] plT)).grownBy w3 (Value.slice vA pre.length vc).ownBlock := ⟨ha.fr.os, ha.fr.tape, ha.fr.output, ha.fr.size, fun k hk hn => ha.fr.block k hk (fun e => hn e.symm)⟩
    have hcl : ∀ (j : Nat) (o : Obj), (Value.slice vA pre.length vc).ownBlock = some j → (W.alloc (.cells #[.string (strOfNums x.b), .int .i64 x.f, .int .i64 x.t] plT)).heap[j]? = some o → ∃ cs, o = .cells cs plT (0, 0) := fun j o ej hj => by
      obtain ⟨cs, hc⟩ := (HO.out.alloc (.cells #[.string (strOfNums x.b), .int .i64 x.f, .int .i64 x.t] plT)).typed j ej
      rw [show _ = _ from hc] at hj
      injection hj with hj
      exact ⟨cs, hj.symm⟩
    refine ⟨?_, ?_, ⟨_, hb3.set _, ?_⟩, ?_⟩
    · exact (((KeepsOthers.alloc W _).trans (KeepsOthers.of_grownBy hg (fun j o ej hj => by obtain ⟨cs, rfl⟩ := hcl j o ej hj; rfl))).trans (KeepsOthers.setCell _ _ _)).from _
    · exact ((KeepsWalks.alloc W _).trans (KeepsWalks.of_grownBy hg (fun j o ej hj => by obtain ⟨cs, rfl⟩ := hcl j o ej hj; rfl))).trans (KeepsWalks.setCell _ _ _)
    · have h9 := ha.own.put (p := ⟨w.heap.size, 0, none⟩) (ha.own.ne (show Blk w3 w.heap.size psT #[.slice vA pre.length vc] from hb3) (by decide)) (.slice nA (pre.length + 1) nc)
      rw [List.length_append, pls_app]
      exact h9
    · exact ((HL.out.alloc hz _).trans ((ha.fr.below (B := w.heap.size) (by simp; omega) (fun k hk e => by have := (HO.out.lt k e).1; omega)))).setCell (Nat.le_refl _) _
  case done =>
    intro D xs W hD hS hi hK
    obtain ⟨⟨v, hbv, ho⟩, hbl⟩ := hi
    obtain ⟨vA, vc, rfl, hvc⟩ := ho.sl.form
    have HS := hide hS
    have HO := hide ho
    have HL := hide hbl
    have HK := hide hK
    have s0 := hbv.cell
    have hbs := hbv.lt
    clear hS hbv ho hbl hK
    gi_wp2
    refine ⟨by simp, .inl ⟨_, _, rfl, run_takeDeferred HK.out, ?_⟩⟩
    have hg : W.grownBy (W.putObj D (.deferred none)) (some D) := ⟨rfl, rfl, rfl, by simp, fun k _ hk => World.putObj_heap_other (fun e => hk (by rw [e]))⟩
    have hres : Try.f82.results = #[.tmp 4] := by kernel_rfl
    refine ⟨.slice vA xs.length vc, by simp [results, hres, go_sem], .slice vA xs.length vc, xs, rfl, HS.out, HO.out.grownC hg (fun r e => by cases e; exact ⟨_, HK.out, rfl⟩), HL.out.grown hg HL.out.size (fun k e => by cases e; have := HZ.out.1; omega)⟩
  case stop =>
    intro D c pre W hD hSp hx
    exact hx.elim

set_option maxHeartbeats 2000000 in
theorem pcollect_in (n : Nat) (hn : 3 ≤ n) (g : Nat) (lb : Array Value) (eg : ∀ args w, (callFunc g args).run Try.prog w = .ok (.enter g args) w) (S : List PK → Prop) (N : Nat) (hN : N ≤ 1000000) (w : World)
    (hseq : SeqStopsK Fence.wide (n - 1 - 1) Try.prog g lb (fun x : PK => #[plV x]) KeepsWalks S (fun _ => True) N w) :
    CallsIn Fence.wide n Try.prog 77 #[.func (.func g) #[] lb] w fun e w' => ∃ (v : Value) (ss : List PK), e = .returned v ∧ S ss ∧ Go.Proofs.Ytkobaidamdffmaa.Own w' w.heap.size plT 3 v ss.length (pls ss) ∧ Below w.heap.size w w' := by
  refine callsIn_of_wp Try.func77 rfl trivial ?_ rfl
  simp only [Try.ntmps77, List.size_toArray, List.length_cons, List.length_nil, Nat.reduceAdd, Nat.reduceSub, Array.replicate_succ, Array.replicate_zero, List.push_toArray, List.append_toArray, List.nil_append, List.cons_append]
  have HAP := hide (pappend_in (n - 1) (by omega) g lb eg S N hN w hseq)
  have h1 : 1 ≤ n := by omega
  have hf : Fence.wide.fn 82 := trivial
  clear hseq
  gi_wp2_with (gi_at_call 82; refine HAP.out.mono ?_; rintro e w' ⟨v, ss, rfl, hS, ho, hb⟩)
  go_ret
  exact ⟨v, ss, rfl, hS, ho, hb⟩

/-- a table's keys, sorted -/
structure PlsP (w : World) (L : List (PK × CV)) (v : Value) (E : List PK) (w' : World) : Prop where
  own : Go.Proofs.Ytkobaidamdffmaa.Own w' w.heap.size plT 3 v E.length (pls E)
  pm : E.Perm (L.map (·.1))
  so : E.Pairwise leP
  bl : Below w.heap.size w w'
abbrev kiF : Nat := 79
set_option maxHeartbeats 2000000 in
theorem psorted_in (n : Nat) (hn : 5 ≤ n) (Bm b : Nat) (L : List (PK × CV)) (w : World) (hBm : Bm < w.heap.size) (hm : w.cell? ⟨Bm, 0, none⟩ = some (.map (some b))) (hown : MapR w b plV cvV L) (hL : L.length ≤ 1000000) :
    CallsIn Fence.wide n Try.prog 63 #[.func (.func kiF) #[] #[.pointer (some ⟨Bm, 0, none⟩)], .func (.func 51) #[] #[]] w fun e w' => ∃ (v : Value) (E : List PK), e = .returned v ∧ PlsP w L v E w' := by
  refine callsIn_of_wp Try.func63 rfl trivial ?_ rfl
  simp only [Try.ntmps63, List.size_toArray, List.length_cons, List.length_nil, Nat.reduceAdd, Nat.reduceSub, Array.replicate_succ, Array.replicate_zero, List.push_toArray, List.append_toArray, List.nil_append, List.cons_append]
  have eg : ∀ args w, (callFunc kiF args).run Try.prog w = .ok (.enter kiF args) w := fun args w => by kernel_rfl
  have HCO := hide (pcollect_in (n - 1) (by omega) kiF #[.pointer (some ⟨Bm, 0, none⟩)] eg _ L.length hL w (pkeys_stops (n - 1 - 1 - 1) (by omega) Bm b L w hBm hm hown))
  have h1 : 1 ≤ n := by omega
  have hf1 : Fence.wide.fn 77 := trivial
  have hf2 : Fence.wide.fn 78 := trivial
  clear hm hown eg
  gi_wp2_with (gi_at_call 77; refine HCO.out.mono ?_; rintro e w2 ⟨v, ss, rfl, hS, ho, hb⟩)
  obtain ⟨vA, vc, rfl, hvc⟩ := ho.sl.form
  have hln : ss.length ≤ 1000000 := by have := hS.length_eq; simp at this; omega
  have HSO := hide (callsIn_wide (n := n - 1) |>.2 (psort_any (.slice vA ss.length vc) ss w.heap.size w2 ho (by omega)))
  have HS := hide hS
  have HO := hide ho
  have HB := hide hb
  clear hS ho hb
  gi_wp2_with (gi_at_call 78; refine HSO.out.mono ?_; rintro e w3 ⟨rfl, E, hp, hso, ho3, hf3⟩)
  have hl := hp.length_eq
  have HR : Hid (PlsP w L (.slice vA ss.length vc) E w3) := ⟨by rw [hl]; exact ho3, hp.trans HS.out, hso, HB.out.trans (hf3.below HB.out.size (fun k hk e => by have := (HO.out.lt k e).1; omega))⟩
  clear hp hso ho3 hf3 hl
  gi_wp2
  go_ret
  exact ⟨_, E, rfl, HR.out⟩

set_option maxHeartbeats 2000000 in
theorem places_any (w : World) (base tb cb : Nat) (wm fm : Option Nat) (bg : Bool) (L W : List (PK × CV)) (F : List (PK × Int)) (h : TabS w base tb cb wm fm bg L W F) (hL : L.length ≤ 1000000) :
    Calls Try.prog 37 #[.pointer (some ⟨tb, 0, none⟩)] w fun e w' => ∃ (v : Value) (E : List PK), e = .returned v ∧ PlsP w L v E w' := by
  refine (callsIn_wide (n := 6)).1 ?_
  obtain ⟨t0, t1, t2, t3, htl⟩ := h.open
  have HK : Hid (CallsIn Fence.wide 5 Try.prog 64 #[.map (some cb)] w fun e w' => e = .returned (.func (.func kiF) #[] #[.pointer (some ⟨w.heap.size, 0, none⟩)]) ∧ w' = w.alloc (.cells #[.map (some cb)] cmT)) := by
    refine callsIn_of_wp Try.func64 rfl trivial ?_ rfl
    simp only [Try.ntmps64, List.size_toArray, List.length_cons, List.length_nil, Nat.reduceAdd, Nat.reduceSub, Array.replicate_succ, Array.replicate_zero, List.push_toArray, List.append_toArray, List.nil_append, List.cons_append]
    gi_wp2
    go_ret
    exact ⟨rfl, rfl⟩
  have HB : Hid (Below w.heap.size w (w.alloc (.cells #[.map (some cb)] cmT))) := (Below.refl _ _).alloc (Nat.le_refl _) _
  have HS := hide (psorted_in 5 (by omega) w.heap.size cb L (w.alloc (.cells #[.map (some cb)] cmT)) (by simp) (Blk.new w cmT #[.map (some cb)] |>.cell 0) (h.map.below HB.out h.map.lt) hL)
  have hf1 : Fence.wide.fn 64 := trivial
  have hf2 : Fence.wide.fn 63 := trivial
  clear h t1 t2 t3
  refine callsIn_of_wp Try.func37 rfl trivial ?_ rfl
  simp only [Try.ntmps37, List.size_toArray, List.length_cons, List.length_nil, Nat.reduceAdd, Nat.reduceSub, Array.replicate_succ, Array.replicate_zero, List.push_toArray, List.append_toArray, List.nil_append, List.cons_append]
  gi_wp2_with (first
    | (gi_at_call 64; refine HK.out.mono ?_; rintro e w' ⟨rfl, rfl⟩)
    | (gi_at_call 63; refine HS.out.mono ?_; rintro e w' ⟨v, E, rfl, hr⟩))
  go_ret
  exact ⟨v, E, rfl, hr.own.lower HB.out.size, hr.pm, hr.so, HB.out.trans (hr.bl.mono HB.out.size)⟩

end Go.Proofs.Ytkobaidamdffmaa

namespace Go.Proofs.Ytkobaidamdffmaa
open Go.RowKit
set_option linter.unusedVariables false
set_option linter.unusedSimpArgs false

/-- the slice v of the bytes D lies at the head of a block of bytes, from base on -/
def RoB (w : World) (base : Nat) (v : Value) (D : List Int) : Prop :=
  ∃ A c, v = .slice A D.length c ∧ D.length ≤ c ∧ c ≤ 9223372036854775807 ∧ (0 < D.length → ∃ g cs fr, A = some ⟨g, 0, none⟩ ∧ base ≤ g ∧ w.heap[g]? = some (.cells cs bT fr) ∧ ∀ j, j < D.length → cs[j]? = (bys D)[j]?)
section
variable {w w' : World} {base b' : Nat} {v : Value} {D : List Int}
theorem RoB.form (h : RoB w base v D) : ∃ A c, v = .slice A D.length c ∧ D.length ≤ c := by
  obtain ⟨A, c, h1, h2, _⟩ := h
  exact ⟨A, c, h1, h2⟩
theorem RoB.sl (h : RoB w base v D) : Sl w w.heap.size v 1 D.length (bys D) := by
  obtain ⟨A, c, h1, h2, h3, h4⟩ := h
  refine ⟨bys_len D, A, c, h1, h2, h3, fun hn => ?_⟩
  obtain ⟨g, cs, fr, h5, h6, h7, h8⟩ := h4 hn
  refine ⟨_, h5, (Array.getElem?_eq_some_iff.1 h7).1, fun j u hu => ?_⟩
  have hj : j < D.length := by
    have := (List.getElem?_eq_some_iff.1 hu).1
    rw [bys_len] at this
    omega
  have hadd : (⟨g, 0, none⟩ : Addr).add j = ⟨g, j, none⟩ := by unfold Addr.add; split <;> simp_all
  rw [hadd]
  simp only [World.cell?, h7]
  rw [h8 j hj, hu]
  rfl
theorem RoB.fr {S : Nat → Prop} (h : RoB w base v D) (hf : Fr S w w') (hs : ∀ g cs fr, w.heap[g]? = some (.cells cs bT fr) → ¬ S g) : RoB w' base v D := by
  obtain ⟨A, c, h1, h2, h3, h4⟩ := h
  refine ⟨A, c, h1, h2, h3, fun hn => ?_⟩
  obtain ⟨g, cs, fr, h5, h6, h7, h8⟩ := h4 hn
  exact ⟨g, cs, fr, h5, h6, (hf.block g (Array.getElem?_eq_some_iff.1 h7).1 (hs g cs fr h7)).trans h7, h8⟩
theorem RoB.below (h : RoB w base v D) (hb : Below w.heap.size w w') : RoB w' base v D := h.fr (S := nob) (Fr.of_below hb) (fun _ _ _ _ => id)
theorem RoB.lower (h : RoB w base v D) (hb : b' ≤ base) : RoB w b' v D := by
  obtain ⟨A, c, h1, h2, h3, h4⟩ := h
  refine ⟨A, c, h1, h2, h3, fun hn => ?_⟩
  obtain ⟨g, cs, fr, h5, h6, h7⟩ := h4 hn
  exact ⟨g, cs, fr, h5, Nat.le_trans hb h6, h7⟩
theorem RoB.of_own (h : Own w base bT 1 v D.length (bys D)) : RoB w base v D := by
  obtain ⟨A, c, hv, hc⟩ := h.sl.form
  have hm := (show Sl w w.heap.size (.slice A D.length c) 1 D.length (bys D) by rw [← hv]; exact h.sl).inv.2.2.1
  refine ⟨A, c, hv, hc, hm, fun hn => ?_⟩
  rcases h.2 with ⟨_, h0⟩ | ⟨g, cap, cur, h1, h2, h3, h4, h5, h6, h7⟩
  · omega
  · rw [hv] at h1
    injection h1 with h1 _ _
    refine ⟨g, cur, (0, 0), h1, h2, h3, fun j hj => ?_⟩
    rw [← h7, List.getElem?_take, if_pos (by omega), Array.getElem?_toList]
end
/-- other blocks than bytes of whatever mark -/
theorem TabS.nbyte {w : World} {base tb cb : Nat} {wm fm : Option Nat} {bg : Bool} {L W : List (PK × CV)} {F : List (PK × Int)} (h : TabS w base tb cb wm fm bg L W F) : ∀ g cs fr, w.heap[g]? = some (.cells cs bT fr) → ¬ TBk tb cb wm fm bg g := by
  rintro g cs fr hg (h1 | h1 | ⟨h0, h1⟩)
  · have hb := h.blk
    unfold Blk at hb
    rw [← h1, hg] at hb
    injection hb with hb
    injection hb with _ hb
    exact absurd hb (by decide)
  · obtain ⟨es, clock, hb, _⟩ := h.map
    rw [← h1, hg] at hb
    cases hb
  · obtain ⟨wb, fb, e1, e2, h3⟩ := h.beg h0
    rcases h1 with h1 | h1
    · rw [e1] at h1
      injection h1 with h1
      obtain ⟨es, clock, hb, _⟩ := h3.wm
      rw [h1, hg] at hb
      cases hb
    · rw [e2] at h1
      injection h1 with h1
      obtain ⟨es, clock, hb, _⟩ := h3.fm
      rw [h1, hg] at hb
      cases hb

theorem strOf_size (D : List Int) : (strOfNums D).size = D.length := by
  show (strOfNums D).data.size = _
  rw [← Array.length_toList, strOfNums_data, List.length_map]
/-- []byte(s) -/
theorem conv_any (w : World) (D : List Int) (h8 : Bytes8 D) (hn : D.length ≤ 140737488355328) :
    ∃ cap w', (convert 9 23 (.string (strOfNums D))).run Try.prog w = .ok (.slice (some ⟨w.heap.size, 0, none⟩) D.length cap) w' ∧ RoB w' w.heap.size (.slice (some ⟨w.heap.size, 0, none⟩) D.length cap) D ∧ Below w.heap.size w w' := by
  have hr := Lib.run_convert_string_bytes (P := Try.prog) w 9 23 bT (strOfNums D) (u := .string) (by kernel_rfl) Try.underlying23 (by kernel_rfl)
  rw [strOf_size] at hr
  have hge := grownCap_ge w D.length 0 bT
  have hle := grownCap_le_maxLen w D.length 0 bT (by unfold maxLen; omega)
  unfold maxLen at hle
  refine ⟨_, _, hr, ⟨_, _, rfl, hge, by omega, fun _ => ⟨_, _, _, rfl, Nat.le_refl _, Lib.bytesWorld_at_new w bT (strOfNums D), fun j hj => ?_⟩⟩, ⟨rfl, rfl, rfl, ?_, fun k hk => Lib.bytesWorld_at_old w bT _ k hk⟩⟩
  · unfold Lib.bytesCells
    have hsz : (strOfNums D).data.toList = D.map (fun n => UInt8.ofNat n.toNat) := strOfNums_data D
    rw [← Array.getElem?_toList, Array.toList_append, List.getElem?_append_left (by simp only [Array.toList_map, List.length_map, hsz]; exact hj), Array.toList_map, hsz, List.map_map, bys_map, List.getElem?_map, List.getElem?_map, List.getElem?_eq_getElem hj]
    have hb := h8 _ (List.getElem_mem hj)
    simp
    omega
  · rw [Lib.bytesWorld_size]; omega

end Go.Proofs.Ytkobaidamdffmaa

namespace Go.Proofs.Ytkobaidamdffmaa
open Go.RowKit Go.Sort
set_option linter.unusedVariables false
set_option linter.unusedSimpArgs false

/-- a key in memory -/
structure KV where
  v : Value
  p : PK
def KV.cells (k : KV) : List Value := [k.v, .int .i64 k.p.f, .int .i64 k.p.t]
theorem KV.cells3 (k : KV) : k.cells.length = 3 := rfl
def kvs (D : List KV) : List Value := D.flatMap KV.cells
theorem kvs_app (C D : List KV) : kvs (C ++ D) = kvs C ++ kvs D := List.flatMap_append ..
theorem kvs_len (D : List KV) : (kvs D).length = D.length * 3 := flat_len _ 3 KV.cells3 D
abbrev ksT : Nat := 46
theorem tyK : SlTy Try.prog ksT keyT 3 40 (.agg #[.slice none 0 0, .int .i64 0, .int .i64 0]) := ⟨Try.underlying46, info_parts (by kernel_rfl), rfl, by omega⟩
theorem kvs_ok (D : List KV) (h : ∀ k ∈ D, k.v.oneCell' = true) : ∀ u ∈ kvs D, u.oneCell' = true := by
  intro u hu
  simp only [kvs, List.mem_flatMap] at hu
  obtain ⟨k, hk, hp⟩ := hu
  simp only [KV.cells, List.mem_cons, List.not_mem_nil, or_false] at hp
  rcases hp with rfl | rfl | rfl
  · exact h k hk
  · rfl
  · rfl
theorem pl_at {w : World} {B n c : Nat} {A : Option Addr} {D : List PK} (h : Sl w B (.slice A n c) 3 n (pls D)) {k : Nat} (hk : k < n) (hD : D.length = n) :
    ∃ ad, A = some ad ∧ (ad.add (k * 3)).block < B ∧ w.cell? (ad.add (k * 3)) = some (.string (strOfNums (D[k]'(by omega)).b)) ∧ w.cell? ⟨(ad.add (k * 3)).block, (ad.add (k * 3)).off + 1, none⟩ = some (.int .i64 (D[k]'(by omega)).f) ∧ w.cell? ⟨(ad.add (k * 3)).block, (ad.add (k * 3)).off + 2, none⟩ = some (.int .i64 (D[k]'(by omega)).t) := by
  obtain ⟨ad, rfl, hb, hh⟩ := h.at_ hk
  rw [pls, part_of PK.cells 3 (fun _ => rfl) D k (by omega)] at hh
  refine ⟨ad, rfl, by rw [add_blk]; exact hb, ?_, ?_, ?_⟩
  · have := hh 0 _ rfl
    rwa [add_add'] at this
  · have := hh 1 _ rfl
    rw [add_add', add_fld ad (k * 3) 1 (by omega)] at this
    exact this
  · have := hh 2 _ rfl
    rw [add_add', add_fld ad (k * 3) 2 (by omega)] at this
    exact this
theorem kv_at {w : World} {B n c : Nat} {A : Option Addr} {D : List KV} (h : Sl w B (.slice A n c) 3 n (kvs D)) {k : Nat} (hk : k < n) (hD : D.length = n) :
    ∃ ad, A = some ad ∧ (ad.add (k * 3)).block < B ∧ w.cell? (ad.add (k * 3)) = some (D[k]'(by omega)).v ∧ w.cell? ⟨(ad.add (k * 3)).block, (ad.add (k * 3)).off + 1, none⟩ = some (.int .i64 (D[k]'(by omega)).p.f) ∧ w.cell? ⟨(ad.add (k * 3)).block, (ad.add (k * 3)).off + 2, none⟩ = some (.int .i64 (D[k]'(by omega)).p.t) := by
  obtain ⟨ad, rfl, hb, hh⟩ := h.at_ hk
  rw [kvs, part_of KV.cells 3 (fun _ => rfl) D k (by omega)] at hh
  refine ⟨ad, rfl, by rw [add_blk]; exact hb, ?_, ?_, ?_⟩
  · have := hh 0 _ rfl
    rwa [add_add'] at this
  · have := hh 1 _ rfl
    rw [add_add', add_fld ad (k * 3) 1 (by omega)] at this
    exact this
  · have := hh 2 _ rfl
    rw [add_add', add_fld ad (k * 3) 2 (by omega)] at this
    exact this
/-- a key's bytes -/
def KyO (w : World) (base : Nat) (k : KV) : Prop := RoB w base k.v k.p.b

/-- while the keys are collected -/
structure KysI (w wr : World) (E : List PK) (k : Nat) (O : List KV) (v : Value) : Prop where
  own : Go.Proofs.Ytkobaidamdffmaa.Own wr w.heap.size keyT 3 v O.length (kvs O)
  ky : ∀ x ∈ O, KyO wr w.heap.size x
  eq : O.map KV.p = E.take k
  bl : Below w.heap.size w wr
theorem KysI.below {w wr wz : World} {E : List PK} {k : Nat} {O : List KV} {v : Value} (h : KysI w wr E k O v) (b : Below wr.heap.size wr wz) : KysI w wz E k O v :=
  ⟨h.own.below b, fun x hx => (h.ky x hx).below b, h.eq, h.bl.trans (b.mono h.bl.size)⟩
theorem KysI.app {w wr wz : World} {E : List PK} {k : Nat} {O : List KV} {v v' : Value} {x : KV} (h : KysI w wr E k O v) (hk : k < E.length) (hx : KyO wr w.heap.size x) (hd : x.p = E[k]) (ha : App wr w.heap.size keyT 3 v (O.length + 1) (kvs O ++ kvs [x]) v' wz) : KysI w wz E (k + 1) (O ++ [x]) v' := by
  have hbt : ∀ g cs fr, wr.heap[g]? = some (.cells cs bT fr) → ¬ v.ownBlock = some g := fun g cs fr hc e => by
    obtain ⟨c2, k2⟩ := h.own.typed g e
    unfold Blk at k2
    rw [k2] at hc
    injection hc with hc
    injection hc with _ hc
    exact absurd hc (by decide)
  refine ⟨?_, fun y hy => ?_, ?_, h.bl.trans (ha.fr.below h.bl.size (fun j hj e => ?_))⟩
  · rw [kvs_app, List.length_append]; exact ha.own
  · rcases List.mem_append.1 hy with h9 | h9
    · exact (h.ky y h9).fr ha.fr hbt
    · rw [List.mem_singleton.1 h9]; exact RoB.fr hx ha.fr hbt
  · rw [List.take_succ_eq_append_getElem hk, List.map_append, h.eq]
    simp [hd]
  · have := (h.own.lt j e).1; omega

/-- a table's keys in memory, in order -/
structure KysP (w : World) (L : List (PK × CV)) (A : Option Addr) (c : Nat) (O : List KV) (w' : World) : Prop where
  own : Go.Proofs.Ytkobaidamdffmaa.Own w' w.heap.size keyT 3 (.slice A O.length c) O.length (kvs O)
  ky : ∀ x ∈ O, KyO w' w.heap.size x
  pm : (O.map KV.p).Perm (L.map (·.1))
  so : (O.map KV.p).Pairwise leP
  bl : Below w.heap.size w w'

set_option maxRecDepth 100000 in
set_option maxHeartbeats 4000000 in
theorem ckeys_any (w : World) (base tb cb : Nat) (wm fm : Option Nat) (bg : Bool) (L W : List (PK × CV)) (F : List (PK × Int)) (h : TabS w base tb cb wm fm bg L W F) (hL : L.length ≤ 1000000) :
    Calls Try.prog 13 #[.pointer (some ⟨tb, 0, none⟩)] w fun e w' => ∃ (A : Option Addr) (c : Nat) (O : List KV), e = .returned (.slice A O.length c) ∧ KysP w L A c O w' := by
  have HPL := hide (places_any w base tb cb wm fm bg L W F h hL)
  clear h
  go_enter Try.func13, Try.ntmps13
  go_wp2_with fail
  refine HPL.out.mono ?_
  clear HPL
  rintro e w1 ⟨v, E, rfl, hp⟩
  obtain ⟨eA, ec, rfl, hec⟩ := hp.own.sl.form
  obtain ⟨n, hn⟩ : ∃ n, n = E.length := ⟨_, rfl⟩
  have HN := hide hn
  have hln : n ≤ 1000000 := by have := hp.pm.length_eq; simp at this; omega
  have HS : Hid (Go.Proofs.Ytkobaidamdffmaa.Own w1 w.heap.size plT 3 (.slice eA n ec) n (pls E)) := by rw [hn]; exact hp.own
  have HPP : Hid (E.Perm (L.map (·.1)) ∧ E.Pairwise leP) := ⟨hp.pm, hp.so⟩
  have HI0 : Hid (KysI w w1 E 0 [] (.slice none 0 0)) := ⟨Own.nil _ _ _ _, (fun x hx => by cases hx), rfl, hp.bl⟩
  rw [← hn] at hec ⊢
  clear hp hn
  go_wp2_with fail
  go_loopw [3, 9] (fun v i wr => ∃ (k : Nat) (O : List KV), k ≤ n ∧ i = .int .i64 k ∧ O.length = k ∧ Hid (KysI w wr E k O v ∧ Go.Proofs.Ytkobaidamdffmaa.Own wr w.heap.size plT 3 (.slice eA n ec) n (pls E))) (fun _ i _ => n - (intOf i).toNat)
  case atStart => exact ⟨0, [], Nat.zero_le _, rfl, rfl, HI0.out, HS.out⟩
  case round =>
    obtain ⟨k, O, hk, rfl, rfl, HI⟩ := hrel
    by_cases hlt : O.length < n
    · have hkE : O.length < E.length := by rw [← HN.out]; exact hlt
      obtain ⟨ad, rfl, hab, a0, a1, a2⟩ := pl_at HI.out.2.sl hlt HN.out.symm
      have hab2 : (ad.add (O.length * 3)).block < wr.heap.size := hab
      obtain ⟨oA, oc, rfl, hoc⟩ := HI.out.1.own.sl.form
      obtain ⟨p, hp⟩ : ∃ p, p = E[O.length] := ⟨_, rfl⟩
      have HP := hide hp
      rw [← hp] at a0 a1 a2
      clear hp
      go_upto_region 5 with fail
      have HI2 : Hid (KysI w (wr.alloc (.cells #[.string (strOfNums p.b), .int .i64 p.f, .int .i64 p.t] plT)) E O.length O (.slice oA O.length oc) ∧ Go.Proofs.Ytkobaidamdffmaa.Own (wr.alloc (.cells #[.string (strOfNums p.b), .int .i64 p.f, .int .i64 p.t] plT)) w.heap.size plT 3 (.slice (some ad) n ec) n (pls E)) := ⟨HI.out.1.below ((Below.refl _ _).alloc (Nat.le_refl _) _), HI.out.2.alloc _⟩
      have HB2 : Hid (Blk (wr.alloc (.cells #[.string (strOfNums p.b), .int .i64 p.f, .int .i64 p.t] plT)) wr.heap.size plT #[.string (strOfNums p.b), .int .i64 p.f, .int .i64 p.t]) := Blk.new wr _ _
      change Code.wp _ _ _ _ (wr.alloc (.cells #[.string (strOfNums p.b), .int .i64 p.f, .int .i64 p.t] plT))
      generalize wr.alloc (.cells #[.string (strOfNums p.b), .int .i64 p.f, .int .i64 p.t] plT) = w2 at *
      obtain ⟨pb, hpb⟩ : ∃ pb, pb = wr.heap.size := ⟨_, rfl⟩
      rw [← hpb] at HB2 ⊢
      clear hpb a0 a1 a2 hab hab2 HI
      obtain ⟨cap, w3, hcv, hrb, hb3⟩ := conv_any w2 p.b p.ok.1 (Nat.le_trans p.ok.2.1 (by decide))
      have HR3 := hide (hrb.lower HI2.out.1.bl.size)
      have HI3 : Hid (KysI w w3 E O.length O (.slice oA O.length oc) ∧ Go.Proofs.Ytkobaidamdffmaa.Own w3 w.heap.size plT 3 (.slice (some ad) n ec) n (pls E)) := ⟨HI2.out.1.below hb3, HI2.out.2.below hb3⟩
      have HB3 := hide (HB2.out.below hb3 HB2.out.lt)
      have b0 : w2.cell? ⟨pb, 0, none⟩ = some (.string (strOfNums p.b)) := HB2.out.cell 0
      have b1 : w3.cell? ⟨pb, 1, none⟩ = some (.int .i64 p.f) := HB3.out.cell 1
      have b2 : w3.cell? ⟨pb, 2, none⟩ = some (.int .i64 p.t) := HB3.out.cell 2
      have hbl := HB2.out.lt
      have hbl3 := HB3.out.lt
      obtain ⟨kg, hkg⟩ : ∃ kg, kg = w2.heap.size := ⟨_, rfl⟩
      rw [← hkg] at hcv HR3
      clear hrb hb3 hkg
      have hz3 := HI3.out.1.bl.size
      obtain ⟨kn, hkn⟩ : ∃ kn, kn = p.b.length := ⟨_, rfl⟩
      rw [← hkn] at hcv HR3
      clear hkn
      have HSL : Hid (∀ W : World, Sl (W.alloc (.cells #[.slice (some ⟨kg, 0, none⟩) kn cap, .int .i64 p.f, .int .i64 p.t] keyT)) (W.heap.size + 1) (.slice (some ⟨W.heap.size, 0, none⟩) 1 1) 3 1 (kvs [⟨.slice (some ⟨kg, 0, none⟩) kn cap, p⟩])) := fun W =>
        Sl.of_own (Own.new (n := 1) (sz := 3) (e := keyT) (base := 0) W #[.slice (some ⟨kg, 0, none⟩) kn cap, .int .i64 p.f, .int .i64 p.t] (by omega) (by omega) rfl) |>.mono (by simp)
      have HI4 : Hid (∀ cs, KysI w (w3.alloc (.cells cs keyT)) E O.length O (.slice oA O.length oc) ∧ Go.Proofs.Ytkobaidamdffmaa.Own (w3.alloc (.cells cs keyT)) w.heap.size plT 3 (.slice (some ad) n ec) n (pls E) ∧ KyO (w3.alloc (.cells cs keyT)) w.heap.size ⟨.slice (some ⟨kg, 0, none⟩) kn cap, p⟩) := fun cs =>
        ⟨HI3.out.1.below ((Below.refl _ _).alloc (Nat.le_refl _) _), HI3.out.2.alloc _, RoB.below HR3.out ((Below.refl _ _).alloc (Nat.le_refl _) _)⟩
      go_wp2_with (at_builtin; refine wpList_app rfl tyK (.tmp 13) (.tmp 20) rfl w.heap.size (n := O.length) (m := 1) (B := w3.heap.size + 1) (xs := kvs O) (news := kvs [⟨.slice (some ⟨kg, 0, none⟩) kn cap, p⟩]) rfl rfl (by exact (HI4.out _).1.own) (by exact HSL.out w3) (kvs_ok _ (by intro u hu; simp only [List.mem_singleton] at hu; subst hu; rfl)) (by omega) (by omega) (by simp; omega) ?_)
      intro v5 w5 ha5
      have hq := HI4.out #[.slice (some ⟨kg, 0, none⟩) kn cap, .int .i64 p.f, .int .i64 p.t]
      have HI5 : Hid (KysI w w5 E (O.length + 1) (O ++ [⟨.slice (some ⟨kg, 0, none⟩) kn cap, p⟩]) v5 ∧ Go.Proofs.Ytkobaidamdffmaa.Own w5 w.heap.size plT 3 (.slice (some ad) n ec) n (pls E)) := ⟨hq.1.app hkE hq.2.2 HP.out ha5, hq.2.1.fr ha5.fr (fun g hg e => by obtain ⟨c2, k2⟩ := hq.2.1.typed g hg; exact hq.1.own.ne k2 (by decide) e)⟩
      clear hq
      clear ha5 HI4 HSL
      go_wp2_with fail
      go_roundw
      case rel => exact ⟨O.length + 1, _, by omega, by simp, by simp, HI5.out⟩
      case measure => simp [intOf]; omega
    · have HE : Hid (O.map KV.p = E) := by rw [Hid, HI.out.1.eq, List.take_of_length_le (by rw [← HN.out]; omega)]
      obtain ⟨oA, oc, rfl, hoc⟩ := HI.out.1.own.sl.form
      have HR : Hid (KysP w L oA oc O wr) := ⟨HI.out.1.own, HI.out.1.ky, by rw [HE.out]; exact HPP.out.1, by rw [HE.out]; exact HPP.out.2, HI.out.1.bl⟩
      go_wp2_with fail
      go_ret
      exact ⟨oA, oc, O, rfl, HR.out⟩

end Go.Proofs.Ytkobaidamdffmaa
