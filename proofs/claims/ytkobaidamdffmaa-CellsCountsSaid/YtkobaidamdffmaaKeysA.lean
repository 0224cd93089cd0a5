/- cells: slices.AppendSeq, Collect, SortedFunc of places; Table.places. -/
import Derived.Test.YtkobaidamdffmaaKeysI
namespace Go.Proofs.Ytkobaidamdffmaa
open Go.RowKit Go.Sort
set_option linter.unusedVariables false
set_option linter.unusedSimpArgs false

section
variable {F : Fence} {n : Nat} {P : Program} {w : World} {t e sz by_ : Nat} {z : Value} {ops : Array Oper} {rest : List Oper} {o : Oper} {a : Act} {Q : Exit → Act → World → Prop}
theorem wpListIn_app (hgd : o.guard = none) (T : SlTy P t e sz by_ z) (s x : Operand) (ho : o.op = .call { callee := .builtin .append, args := #[s, x], argTypes := #[t, t] })
    (base : Nat) {v xv : Value} {m k B : Nat} {xs news : List Value} (hs : a.eval s = v) (hxv : a.eval x = xv) (hv : Go.Proofs.Ytkobaidamdffmaa.Own w base e sz v k xs) (hx : Sl w B xv sz m news) (h1 : ∀ u ∈ news, u.oneCell' = true)
    (hm : k + m ≤ 9223372036854775807) (hbytes : (k + m) * by_ ≤ 140737488355328) (hbase : base ≤ w.heap.size)
    (h : ∀ v' w', App w base e sz v (k + m) (xs ++ news) v' w' → wpListIn F n P ops Q rest (a.put o.dst v') w') : wpListIn F n P ops Q (o :: rest) a w := by
  refine wpListIn_plain hgd fun K' hK' => ?_
  obtain ⟨v', w', hr, h2⟩ := run_app T o.type base hv hx h1 hm hbytes hbase
  unfold Oper.wpIn
  refine ⟨?_, ?_⟩
  · simp [Oper.about, ho, resolve, Target.leads, Sem.run_pure]
  · rw [Oper.semAt_plain F _ _ (by rw [ho]; intro c hc'; cases hc')]
    simp only [execOp, ho, resolve, invoke, builtin, Sem.run_bind, Sem.run_pure, Result.andThen_ok, Result.andThen, List.map_toArray, List.map_cons, List.map_nil, hs, hxv, hr]
    exact hK' _ _ (h v' w' h2)
end
abbrev psT : Nat := 91
theorem tyP : SlTy Try.prog psT plT 3 32 (.agg #[.string ⟨#[]⟩, .int .i64 0, .int .i64 0]) := ⟨Try.underlying91, info_parts (by kernel_rfl), rfl, by omega⟩
theorem pls_ok (D : List PK) : ∀ u ∈ pls D, u.oneCell' = true := by
  intro u hu
  simp only [pls, List.mem_flatMap] at hu
  obtain ⟨p, _, hp⟩ := hu
  simp only [PK.cells, List.mem_cons, List.not_mem_nil, or_false] at hp
  rcases hp with rfl | rfl | rfl <;> rfl
theorem pls_app (C D : List PK) : pls (C ++ D) = pls C ++ pls D := List.flatMap_append ..

/-- between two rounds -/
def ApI (w : World) (pre : List PK) (W : World) : Prop := (∃ v, Boxed W w.heap.size psT v ∧ Go.Proofs.Ytkobaidamdffmaa.Own W w.heap.size plT 3 v pre.length (pls pre)) ∧ Below w.heap.size w W
theorem Own.grownC {w w' : World} {base e sz n : Nat} {v : Value} {xs : List Value} {row : Option Nat} (h : Go.Proofs.Ytkobaidamdffmaa.Own w base e sz v n xs) (hg : w.grownBy w' row) (hr : ∀ r, row = some r → ∃ o : Obj, w.heap[r]? = some o ∧ o.isCells = false) : Go.Proofs.Ytkobaidamdffmaa.Own w' base e sz v n xs :=
  h.to fun g hgb => hg.block g (h.lt g hgb).2 (fun e9 => by
    obtain ⟨o, ho, hc⟩ := hr g e9.symm
    obtain ⟨cs, hb⟩ := h.typed g hgb
    rw [show w.heap[g]? = _ from hb] at ho
    injection ho with ho
    rw [← ho] at hc
    cases hc)
theorem apI_own (w : World) (B : Nat) (hB : w.heap.size ≤ B) : OwnFrom B (ApI w) := fun s W W' row h hg hr => by
  obtain ⟨⟨v, hb, ho⟩, hbl⟩ := h
  refine ⟨⟨v, hb.kept hg (fun e => ?_), ho.grownC hg (fun r e => (hr r e).2)⟩, hbl.grown hg hbl.size (fun k e => Nat.le_trans hB (hr k e).1)⟩
  obtain ⟨_, o, ho', hc⟩ := hr _ e.symm
  rw [show W.heap[w.heap.size]? = _ from hb] at ho'
  injection ho' with ho'
  rw [← ho'] at hc
  cases hc

set_option maxRecDepth 100000 in
set_option maxHeartbeats 4000000 in
theorem pappend_in (n : Nat) (hn : 2 ≤ n) (g : Nat) (lb : Array Value) (eg : ∀ args w, (callFunc g args).run Try.prog w = .ok (.enter g args) w) (S : List PK → Prop) (N : Nat) (hN : N ≤ 1000000) (w : World)
    (hseq : SeqStopsK Fence.wide (n - 1) Try.prog g lb (fun x : PK => #[plV x]) KeepsWalks S (fun _ => True) N w) :
    CallsIn Fence.wide n Try.prog 82 #[.slice none 0 0, .func (.func g) #[] lb] w fun e w' => ∃ (v : Value) (ss : List PK), e = .returned v ∧ S ss ∧ Go.Proofs.Ytkobaidamdffmaa.Own w' w.heap.size plT 3 v ss.length (pls ss) ∧ Below w.heap.size w w' := by
  refine callsIn_of_wp_marks Try.func82 rfl trivial ?_ rfl
  simp only [Try.ntmps82, List.size_toArray, List.length_cons, List.length_nil, Nat.reduceAdd, Nat.reduceSub, Array.replicate_succ, Array.replicate_zero, List.push_toArray, List.append_toArray, List.nil_append, List.cons_append]
  have HSQ := hide hseq
  clear hseq
  gi_wp2
  have HZ : Hid ((w.alloc (.cells #[.slice none 0 0] psT)).heap.size = w.heap.size + 1 ∧ ApI w [] (w.alloc (.cells #[.slice none 0 0] psT))) := ⟨by simp, ⟨_, Boxed.new w psT _, Go.Proofs.Ytkobaidamdffmaa.Own.nil _ _ _ _⟩, (Below.refl _ _).alloc (Nat.le_refl _) _⟩
  have HB1 : Hid (Below w.heap.size w (w.alloc (.cells #[.slice none 0 0] psT))) := (Below.refl _ _).alloc (Nat.le_refl _) _
  generalize w.alloc (.cells #[.slice none 0 0] psT) = w1 at *
  refine wpIn_rangeFunc_ownH (w0 := w) rfl (by omega) (gf := g) (lb := lb) rfl trivial eg HSQ.out walksK_t walksK_b HB1.out (fun _ => rfl) (ApI w) (fun _ _ _ => False) (apI_own w _ (by rw [HZ.out.1]; omega)) (fun _ _ _ _ _ h _ _ => h.elim) HZ.out.2
    (fun x a' W => ∃ Bx, Blk W Bx plT #[.string (strOfNums x.b), .int .i64 x.f, .int .i64 x.t] ∧ a' = { tmps := #[.slice none 0 0, .func (.func g) #[] lb, .pointer (some ⟨w.heap.size, 0, none⟩), undef, .slice none 0 0, .pointer (some ⟨Bx, 0, none⟩), .func (.func g) #[] lb, plV x, undef, undef, undef, undef, undef], defers := [] })
    ?_ ?assign ?body ?done ?stop
  · intro x a' s W W' row h hg hr
    obtain ⟨Bx, hb, rfl⟩ := h
    refine ⟨Bx, (hg.block Bx hb.lt (fun e => ?_)).trans hb, rfl⟩
    obtain ⟨_, o, ho', hc⟩ := hr _ e.symm
    rw [show W.heap[Bx]? = _ from hb] at ho'
    injection ho' with ho'
    rw [← ho'] at hc
    cases hc
  case assign =>
    intro l pre x W K hi hK
    obtain ⟨xb, xf, xt, xo⟩ := x
    have HI := hide hi
    have HK := hide hK
    clear hi hK
    unfold plV at *
    gi_wp2_with (rw [Oper.semAt_eq _ _ _ (fun c h => by cases h)]; go_simp; try go_bits)
    exact HK.out _ _ ((KeepsOthers.alloc _ _).from _) (KeepsWalks.alloc _ _) (apI_own w w.heap.size (Nat.le_refl _) pre W _ none HI.out (World.grownBy_alloc W _ none) (fun r e => by cases e)) ⟨W.heap.size, Blk.new W plT _, rfl⟩
  case body =>
    intro l pre x a' W hl hlr hi hax hlt
    obtain ⟨Bx, hb, rfl⟩ := hax
    obtain ⟨⟨v, hbv, ho⟩, hbl⟩ := hi
    obtain ⟨vA, vc, rfl, hvc⟩ := ho.sl.form
    have HB := hide hb
    have HV := hide hbv
    have HO := hide ho
    have HL := hide hbl
    have hz := hbl.size
    have HX := hide x.ok.1
    have hpl : pre.length ≤ 1000000 := by omega
    clear hlr
    have c0 := hb.cell 0
    have c1 := hb.cell 1
    have c2 := hb.cell 2
    simp at c0 c1 c2
    have hbx := hb.lt
    have s0 := hbv.cell
    have hbs := hbv.lt
    have HSL : Hid (Sl (W.alloc (.cells #[.string (strOfNums x.b), .int .i64 x.f, .int .i64 x.t] plT)) (W.heap.size + 1) (.slice (some ⟨W.heap.size, 0, none⟩) 1 1) 3 1 (pls [x])) :=
      Sl.of_own (Own.new (n := 1) (sz := 3) (e := plT) (base := 0) W #[.string (strOfNums x.b), .int .i64 x.f, .int .i64 x.t] (by omega) (by omega) rfl) |>.mono (by simp)
    clear hb hbv ho hbl
    gi_wp2_with (first
      | (gi_at_builtin; refine wpListIn_app rfl tyP (.tmp 8) (.tmp 10) rfl w.heap.size (k := pre.length) (m := 1) (B := W.heap.size + 1) (xs := pls pre) (news := pls [x]) rfl rfl (by exact HO.out.alloc _) (by exact HSL.out) (pls_ok _) (by omega) (by omega) (by simp; omega) ?_; intro v' w3 ha
         have hb3 : Boxed w3 w.heap.size psT (.slice vA pre.length vc) := (ha.fr.block w.heap.size (by simp; omega) (fun e9 => HO.out.ne (show Blk W w.heap.size psT #[.slice vA pre.length vc] from HV.out) (by decide) e9)).trans ((Below.heap_alloc _ _ _ hbs).trans HV.out)
         have s3 := hb3.cell
         have y3 := hb3.frozen
         have hl3 := hb3.lt
         obtain ⟨nA, nc, rfl, hnc⟩ := ha.own.sl.form)
      | (rw [Oper.semAt_eq _ _ _ (fun c h => by cases h)]; go_simp; try go_bits))
    have hg : (W.alloc (.cells #[.string (strOfNums x.b), .int .i64 x.f, .int .i64 x.t] plT)).grownBy w3 (Value.slice vA pre.length vc).ownBlock := ⟨ha.fr.os, ha.fr.tape, ha.fr.output, ha.fr.size, fun k hk hn => ha.fr.block k hk (fun e => hn e.symm)⟩
    have hcl : ∀ (j : Nat) (o : Obj), (Value.slice vA pre.length vc).ownBlock = some j → (W.alloc (.cells #[.string (strOfNums x.b), .int .i64 x.f, .int .i64 x.t] plT)).heap[j]? = some o → ∃ cs, o = .cells cs plT (0, 0) := fun j o ej hj => by
      obtain ⟨cs, hc⟩ := (HO.out.alloc (.cells #[.string (strOfNums x.b), .int .i64 x.f, .int .i64 x.t] plT)).typed j ej
      rw [show _ = _ from hc] at hj
      injection hj with hj
      exact ⟨cs, hj.symm⟩
    refine ⟨?_, ?_, ⟨_, hb3.set _, ?_⟩, ?_⟩
    · exact (((KeepsOthers.alloc W _).trans (KeepsOthers.of_grownBy hg (fun j o ej hj => by obtain ⟨cs, rfl⟩ := hcl j o ej hj; rfl))).trans (KeepsOthers.setCell _ _ _)).from _
    · exact ((KeepsWalks.alloc W _).trans (KeepsWalks.of_grownBy hg (fun j o ej hj => by obtain ⟨cs, rfl⟩ := hcl j o ej hj; rfl))).trans (KeepsWalks.setCell _ _ _)
    · have h9 := ha.own.put (p := ⟨w.heap.size, 0, none⟩) (ha.own.ne (show Blk w3 w.heap.size psT #[.slice vA pre.length vc] from hb3) (by decide)) (.slice nA (pre.length + 1) nc)
      rw [List.length_append, pls_app]
      exact h9
    · exact ((HL.out.alloc hz _).trans ((ha.fr.below (B := w.heap.size) (by simp; omega) (fun k hk e => by have := (HO.out.lt k e).1; omega)))).setCell (Nat.le_refl _) _
  case done =>
    intro D xs W hD hS hi hK
    obtain ⟨⟨v, hbv, ho⟩, hbl⟩ := hi
    obtain ⟨vA, vc, rfl, hvc⟩ := ho.sl.form
    have HS := hide hS
    have HO := hide ho
    have HL := hide hbl
    have HK := hide hK
    have s0 := hbv.cell
    have hbs := hbv.lt
    clear hS hbv ho hbl hK
    gi_wp2
    refine ⟨by simp, .inl ⟨_, _, rfl, run_takeDeferred HK.out, ?_⟩⟩
    have hg : W.grownBy (W.putObj D (.deferred none)) (some D) := ⟨rfl, rfl, rfl, by simp, fun k _ hk => World.putObj_heap_other (fun e => hk (by rw [e]))⟩
    have hres : Try.f82.results = #[.tmp 4] := by kernel_rfl
    refine ⟨.slice vA xs.length vc, by simp [results, hres, go_sem], .slice vA xs.length vc, xs, rfl, HS.out, HO.out.grownC hg (fun r e => by cases e; exact ⟨_, HK.out, rfl⟩), HL.out.grown hg HL.out.size (fun k e => by cases e; have := HZ.out.1; omega)⟩
  case stop =>
    intro D c pre W hD hSp hx
    exact hx.elim

set_option maxHeartbeats 2000000 in
theorem pcollect_in (n : Nat) (hn : 3 ≤ n) (g : Nat) (lb : Array Value) (eg : ∀ args w, (callFunc g args).run Try.prog w = .ok (.enter g args) w) (S : List PK → Prop) (N : Nat) (hN : N ≤ 1000000) (w : World)
    (hseq : SeqStopsK Fence.wide (n - 1 - 1) Try.prog g lb (fun x : PK => #[plV x]) KeepsWalks S (fun _ => True) N w) :
    CallsIn Fence.wide n Try.prog 77 #[.func (.func g) #[] lb] w fun e w' => ∃ (v : Value) (ss : List PK), e = .returned v ∧ S ss ∧ Go.Proofs.Ytkobaidamdffmaa.Own w' w.heap.size plT 3 v ss.length (pls ss) ∧ Below w.heap.size w w' := by
  refine callsIn_of_wp Try.func77 rfl trivial ?_ rfl
  simp only [Try.ntmps77, List.size_toArray, List.length_cons, List.length_nil, Nat.reduceAdd, Nat.reduceSub, Array.replicate_succ, Array.replicate_zero, List.push_toArray, List.append_toArray, List.nil_append, List.cons_append]
  have HAP := hide (pappend_in (n - 1) (by omega) g lb eg S N hN w hseq)
  have h1 : 1 ≤ n := by omega
  have hf : Fence.wide.fn 82 := trivial
  clear hseq
  gi_wp2_with (gi_at_call 82; refine HAP.out.mono ?_; rintro e w' ⟨v, ss, rfl, hS, ho, hb⟩)
  go_ret
  exact ⟨v, ss, rfl, hS, ho, hb⟩

/-- a table's keys, sorted -/
structure PlsP (w : World) (L : List (PK × CV)) (v : Value) (E : List PK) (w' : World) : Prop where
  own : Go.Proofs.Ytkobaidamdffmaa.Own w' w.heap.size plT 3 v E.length (pls E)
  pm : E.Perm (L.map (·.1))
  so : E.Pairwise leP
  bl : Below w.heap.size w w'
abbrev kiF : Nat := 79
set_option maxHeartbeats 2000000 in
theorem psorted_in (n : Nat) (hn : 5 ≤ n) (Bm b : Nat) (L : List (PK × CV)) (w : World) (hBm : Bm < w.heap.size) (hm : w.cell? ⟨Bm, 0, none⟩ = some (.map (some b))) (hown : MapR w b plV cvV L) (hL : L.length ≤ 1000000) :
    CallsIn Fence.wide n Try.prog 63 #[.func (.func kiF) #[] #[.pointer (some ⟨Bm, 0, none⟩)], .func (.func 51) #[] #[]] w fun e w' => ∃ (v : Value) (E : List PK), e = .returned v ∧ PlsP w L v E w' := by
  refine callsIn_of_wp Try.func63 rfl trivial ?_ rfl
  simp only [Try.ntmps63, List.size_toArray, List.length_cons, List.length_nil, Nat.reduceAdd, Nat.reduceSub, Array.replicate_succ, Array.replicate_zero, List.push_toArray, List.append_toArray, List.nil_append, List.cons_append]
  have eg : ∀ args w, (callFunc kiF args).run Try.prog w = .ok (.enter kiF args) w := fun args w => by kernel_rfl
  have HCO := hide (pcollect_in (n - 1) (by omega) kiF #[.pointer (some ⟨Bm, 0, none⟩)] eg _ L.length hL w (pkeys_stops (n - 1 - 1 - 1) (by omega) Bm b L w hBm hm hown))
  have h1 : 1 ≤ n := by omega
  have hf1 : Fence.wide.fn 77 := trivial
  have hf2 : Fence.wide.fn 78 := trivial
  clear hm hown eg
  gi_wp2_with (gi_at_call 77; refine HCO.out.mono ?_; rintro e w2 ⟨v, ss, rfl, hS, ho, hb⟩)
  obtain ⟨vA, vc, rfl, hvc⟩ := ho.sl.form
  have hln : ss.length ≤ 1000000 := by have := hS.length_eq; simp at this; omega
  have HSO := hide (callsIn_wide (n := n - 1) |>.2 (psort_any (.slice vA ss.length vc) ss w.heap.size w2 ho (by omega)))
  have HS := hide hS
  have HO := hide ho
  have HB := hide hb
  clear hS ho hb
  gi_wp2_with (gi_at_call 78; refine HSO.out.mono ?_; rintro e w3 ⟨rfl, E, hp, hso, ho3, hf3⟩)
  have hl := hp.length_eq
  have HR : Hid (PlsP w L (.slice vA ss.length vc) E w3) := ⟨by rw [hl]; exact ho3, hp.trans HS.out, hso, HB.out.trans (hf3.below HB.out.size (fun k hk e => by have := (HO.out.lt k e).1; omega))⟩
  clear hp hso ho3 hf3 hl
  gi_wp2
  go_ret
  exact ⟨_, E, rfl, HR.out⟩

set_option maxHeartbeats 2000000 in
theorem places_any (w : World) (base tb cb : Nat) (wm fm : Option Nat) (bg : Bool) (L W : List (PK × CV)) (F : List (PK × Int)) (h : TabS w base tb cb wm fm bg L W F) (hL : L.length ≤ 1000000) :
    Calls Try.prog 37 #[.pointer (some ⟨tb, 0, none⟩)] w fun e w' => ∃ (v : Value) (E : List PK), e = .returned v ∧ PlsP w L v E w' := by
  refine (callsIn_wide (n := 6)).1 ?_
  obtain ⟨t0, t1, t2, t3, htl⟩ := h.open
  have HK : Hid (CallsIn Fence.wide 5 Try.prog 64 #[.map (some cb)] w fun e w' => e = .returned (.func (.func kiF) #[] #[.pointer (some ⟨w.heap.size, 0, none⟩)]) ∧ w' = w.alloc (.cells #[.map (some cb)] cmT)) := by
    refine callsIn_of_wp Try.func64 rfl trivial ?_ rfl
    simp only [Try.ntmps64, List.size_toArray, List.length_cons, List.length_nil, Nat.reduceAdd, Nat.reduceSub, Array.replicate_succ, Array.replicate_zero, List.push_toArray, List.append_toArray, List.nil_append, List.cons_append]
    gi_wp2
    go_ret
    exact ⟨rfl, rfl⟩
  have HB : Hid (Below w.heap.size w (w.alloc (.cells #[.map (some cb)] cmT))) := (Below.refl _ _).alloc (Nat.le_refl _) _
  have HS := hide (psorted_in 5 (by omega) w.heap.size cb L (w.alloc (.cells #[.map (some cb)] cmT)) (by simp) (Blk.new w cmT #[.map (some cb)] |>.cell 0) (h.map.below HB.out h.map.lt) hL)
  have hf1 : Fence.wide.fn 64 := trivial
  have hf2 : Fence.wide.fn 63 := trivial
  clear h t1 t2 t3
  refine callsIn_of_wp Try.func37 rfl trivial ?_ rfl
  simp only [Try.ntmps37, List.size_toArray, List.length_cons, List.length_nil, Nat.reduceAdd, Nat.reduceSub, Array.replicate_succ, Array.replicate_zero, List.push_toArray, List.append_toArray, List.nil_append, List.cons_append]
  gi_wp2_with (first
    | (gi_at_call 64; refine HK.out.mono ?_; rintro e w' ⟨rfl, rfl⟩)
    | (gi_at_call 63; refine HS.out.mono ?_; rintro e w' ⟨v, E, rfl, hr⟩))
  go_ret
  exact ⟨v, E, rfl, hr.own.lower HB.out.size, hr.pm, hr.so, HB.out.trans (hr.bl.mono HB.out.size)⟩

end Go.Proofs.Ytkobaidamdffmaa
