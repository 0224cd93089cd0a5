/- slices.DeleteFunc at timers; Of. / slices.DeleteFunc at timers: the walk; Of. / TimersPlays: the reference's row beside the heap's timers: the plain law. -/
import Derived.Test.YtogelnljkdcajaaQTimersPlays11
import Derived.Test.YtogelnljkdcajaaQTimersPlays09

namespace Go.Proofs.Ytogelnljkdcajaa
open Go.RowKit Go.Sort
set_option linter.unusedVariables false
set_option linter.unusedSimpArgs false

theorem Own.sethi {w : World} {base e sz n c g j : Nat} {xs : List Value} (h : Own w base e sz (.slice (some ⟨g, 0, none⟩) n c) n xs) (hj : n * sz ≤ j) (u : Value) : Own (w.setCell ⟨g, j, none⟩ u) base e sz (.slice (some ⟨g, 0, none⟩) n c) n xs := by
  refine ⟨h.1, ?_⟩
  rcases h.2 with ⟨h1, _⟩ | ⟨g', cap, cur, h1, h2, h3, h4, h5, h6, h7⟩
  · cases h1
  · injection h1 with h1 _ h8
    injection h1 with h1
    injection h1 with h1
    subst h1
    subst h8
    refine .inr ⟨g, c, cur.setIfInBounds j u, rfl, h2, Blk.put h3 j u, h4, h5, by simpa using h6, ?_⟩
    rw [← h7, Array.toList_setIfInBounds]
    apply List.ext_getElem?
    intro t
    rw [List.getElem?_take, List.getElem?_take]
    by_cases ht : t < n * sz
    · rw [if_pos ht, if_pos ht, List.getElem?_set, if_neg (by omega)]
    · rw [if_neg ht, if_neg ht]
theorem Own.setshi {base e sz n c g : Nat} {xs : List Value} : ∀ (vs : List Value) (o : Nat) (w : World), Own w base e sz (.slice (some ⟨g, 0, none⟩) n c) n xs → n * sz ≤ o → Own (w.setCells g o vs) base e sz (.slice (some ⟨g, 0, none⟩) n c) n xs ∧ Fr (fun k => k = g) w (w.setCells g o vs)
  | [], o, w, h, _ => ⟨h, Fr.refl _ _⟩
  | v :: vs, o, w, h, ho => by
    have h1 := h.sethi ho v
    have h2 := Own.setshi vs (o + 1) (w.setCell ⟨g, o, none⟩ v) h1 (by omega)
    exact ⟨h2.1, ((Fr.refl (fun k => k = g) w).put (p := ⟨g, o, none⟩) (.inl rfl) v).trans h2.2 (fun _ _ h => h)⟩
theorem wpList_clear {P : Program} {ops : Array Oper} {o : Oper} {rest : List Oper} {a : Act} {w w' : World} {Q : Exit → Act → World → Prop} {t : TypeId} {v r : Value} (hgd : o.guard = none) (s : Operand) (ho : o.op = .call { callee := .builtin .clear, args := #[s], argTypes := #[t] })
    (hs : a.eval s = v) (hr : (Builtin.clear_ #[t] o.type #[v]).run P w = .ok r w') (h : wpList P ops Q rest (a.put o.dst r) w') : wpList P ops Q (o :: rest) a w := by
  refine wpList_plain hgd fun _ hK => ?_
  unfold Oper.wp execOp
  simp only [ho, resolve, invoke, builtin, Sem.run_bind, Sem.run_pure, Result.andThen_ok, List.map_toArray, List.map_cons, List.map_nil, hs, hr]
  exact hK _ _ h
theorem zeroT (w : World) : (zeroValue tmT).run Try.prog w = .ok (.agg #[.int .i64 0, .slice none 0 0, .int .i64 0, .int .i64 0, .int .i64 0]) w := by kernel_rfl
theorem zc_ok (n : Nat) : ∀ v ∈ (Builtin.zeroCells #[.int .i64 0, .slice none 0 0, .int .i64 0, .int .i64 0, .int .i64 0] n).toList, v.oneCell' = true := by
  intro v hv
  simp only [Builtin.zeroCells] at hv
  rw [Array.mem_toList_iff, Array.mem_map] at hv
  obtain ⟨t, _, rfl⟩ := hv
  have : t % 5 = 0 ∨ t % 5 = 1 ∨ t % 5 = 2 ∨ t % 5 = 3 ∨ t % 5 = 4 := by omega
  rcases this with h | h | h | h | h <;> simp [h] <;> rfl
theorem clear_own {w : World} {base n c i ty : Nat} {ad : Addr} {S : List TV} (h : Own w base tmT 5 (.slice (some ad) n c) n (tms S)) (hl : S.length = n) (hi : i < n) :
    ∃ w', (Builtin.clear_ #[46] ty #[.slice (some (ad.add (i * 5))) (n - i) (c - i)]).run Try.prog w = .ok (.tuple #[]) w' ∧ Own w' base tmT 5 (.slice (some ad) i c) i (tms (S.take i)) ∧ Fr (fun k => k = ad.block) w w' := by
  have hfz := fun j => h.frz j
  obtain ⟨g, cap, hv, hnc, _, _, _⟩ := h.pos (by omega)
  injection hv with hv _ hcc
  injection hv with hv
  subst hv
  subst hcc
  have hadd : ∀ j, (⟨g, 0, none⟩ : Addr).add j = ⟨g, j, none⟩ := fun j => by unfold Addr.add; split <;> simp_all
  have hcut := h.cut (k := i) (d := c) (by omega) (by omega) (Nat.le_refl _)
  rw [tms, flat_take TV.cells 5 (fun _ => rfl)] at hcut
  have hcell : ∀ j, j < n * 5 → (w.cell? ⟨g, j, none⟩).isSome = true := by
    intro j hj
    have h9 := h.cells (g := g) rfl j _ (List.getElem?_eq_getElem (show j < (tms S).length by rw [tms_len, hl]; exact hj))
    rw [hadd] at h9
    rw [h9]
    rfl
  have hzl : (Builtin.zeroCells #[.int .i64 0, .slice none 0 0, .int .i64 0, .int .i64 0, .int .i64 0] (n - i)).toList.length = (n - i) * 5 := by simp [Builtin.zeroCells]
  have hst := run_storeCells_cells (P := Try.prog) g (i * 5) (Builtin.zeroCells #[.int .i64 0, .slice none 0 0, .int .i64 0, .int .i64 0, .int .i64 0] (n - i)).toList 0 w
    (by intro j hj; rw [hzl] at hj; exact hcell _ (by omega)) (by intro j hj; have h9 := hfz (i * 5 + 0 + j); rw [hadd] at h9; exact h9) (zc_ok _)
  have hs := Own.setshi (Builtin.zeroCells #[.int .i64 0, .slice none 0 0, .int .i64 0, .int .i64 0, .int .i64 0] (n - i)).toList (i * 5) w hcut (Nat.le_refl _)
  refine ⟨_, ?_, hs.1, hs.2⟩
  rw [hadd]
  obtain ⟨m, hm⟩ : ∃ m, n - i = m + 1 := ⟨n - i - 1, by omega⟩
  rw [hm] at hst ⊢
  simp only [Nat.add_zero] at hst
  simp [Builtin.clear_, run_underlying tyT.ht, zeroT, hst, Value.cells]

end Go.Proofs.Ytogelnljkdcajaa

namespace Go.Proofs.Ytogelnljkdcajaa
open Go.RowKit Go.Sort
set_option linter.unusedVariables false
set_option linter.unusedSimpArgs false

def ofX (X : List TV) (K : List Int) (f t : Int) : List TV := X.filter (fun x => !offK K f t x)
structure DelI (w wr : World) (base : Nat) (ad : Addr) (n c : Nat) (D S : List TV) (K : List Int) (f t : Int) (i j : Nat) : Prop where
  own : Own wr base tmT 5 (.slice (some ad) n c) n (tms S)
  ln : S.length = n
  lo : S.take i = ofX (D.take j) K f t
  hi : S.drop j = D.drop j
  fr : Fr (fun k => k = ad.block) w wr
theorem DelI.below {w wr wz : World} {base n c : Nat} {ad : Addr} {D S : List TV} {K : List Int} {f t : Int} {i j : Nat} (h : DelI w wr base ad n c D S K f t i j) (q : Below wr.heap.size wr wz) : DelI w wz base ad n c D S K f t i j :=
  ⟨h.own.below q, h.ln, h.lo, h.hi, h.fr.trans (Fr.of_below q : Fr nob wr wz) (fun _ _ f => f.elim)⟩
theorem DelI.get {w wr : World} {base n c : Nat} {ad : Addr} {D S : List TV} {K : List Int} {f t : Int} {i j : Nat} (h : DelI w wr base ad n c D S K f t i j) (hj : j < n) (hD : D.length = n) : (S[j]'(by rw [h.ln]; exact hj)) = (D[j]'(by rw [hD]; exact hj)) ∧ S.drop (j + 1) = D.drop (j + 1) := by
  have h1 := h.hi
  rw [List.drop_eq_getElem_cons (show j < S.length by rw [h.ln]; exact hj), List.drop_eq_getElem_cons (show j < D.length by rw [hD]; exact hj)] at h1
  injection h1 with h2 h3
  exact ⟨h2, h3⟩
theorem DelI.skip {w wr : World} {base n c : Nat} {ad : Addr} {D S : List TV} {K : List Int} {f t : Int} {i j : Nat} (h : DelI w wr base ad n c D S K f t i j) (hj : j < n) (hD : D.length = n) (hx : offK K f t (D[j]'(by rw [hD]; exact hj)) = true) : DelI w wr base ad n c D S K f t i (j + 1) := by
  refine ⟨h.own, h.ln, ?_, (h.get hj hD).2, h.fr⟩
  rw [h.lo, List.take_succ_eq_append_getElem (show j < D.length by rw [hD]; exact hj)]
  unfold ofX
  rw [List.filter_append]
  simp [hx]
theorem DelI.move {w wr : World} {base n c : Nat} {ad : Addr} {D S : List TV} {K : List Int} {f t : Int} {i j : Nat} (h : DelI w wr base ad n c D S K f t i j) (hj : j < n) (hD : D.length = n) (hij : i < j) {x : TV} (hxe : x = (D[j]'(by rw [hD]; exact hj))) (hx : offK K f t x = false) :
    DelI w (put5 wr (ad.add (i * 5)) x) base ad n c D (S.set i x) K f t (i + 1) (j + 1) := by
  have hi2 : i < S.length := by rw [h.ln]; omega
  refine ⟨h.own.put5 hi2 h.ln x, by rw [List.length_set]; exact h.ln, ?_, ?_, h.fr.trans (put5_fr (S := fun k => k = ad.block) (p := ad.add (i * 5)) (Fr.refl _ wr) (by rw [add_blk]) x) (fun _ _ h => h)⟩
  · have e1 : (S.set i x).take (i + 1) = S.take i ++ [x] := by
      rw [List.take_succ_eq_append_getElem (by simpa using hi2), List.take_set_of_le (Nat.le_refl i)]
      simp
    rw [e1, h.lo, List.take_succ_eq_append_getElem (show j < D.length by rw [hD]; exact hj), ← hxe]
    unfold ofX
    rw [List.filter_append]
    simp [hx]
  · rw [List.drop_set_of_lt (by omega)]
    exact (h.get hj hD).2

set_option maxRecDepth 100000 in
set_option maxHeartbeats 8000000 in
theorem delf_any (w : World) (base kb : Nat) (v : Value) (D : List TV) (n : Nat) (kA : Option Addr) (kc : Nat) (K : List Int) (f t : Int) (hs : Own w base tmT 5 v n (tms D)) (hD : D.length = n) (hn : n ≤ 100000)
    (hK : ∀ X, Fr (fun k => v.ownBlock = some k) w X → KeyB X X.heap.size kb kA kc K f t ∧ ∀ x ∈ D, KeyIn X X.heap.size x) :
    Calls Try.prog 39 #[v, .func (.func 40) #[] #[.pointer (some ⟨kb, 0, none⟩)]] w fun e w' =>
      ∃ (A : Option Addr) (c : Nat), e = .returned (.slice A (ofX D K f t).length c) ∧ Own w' base tmT 5 (.slice A (ofX D K f t).length c) (ofX D K f t).length (tms (ofX D K f t)) ∧ Fr (fun k => v.ownBlock = some k) w w' ∧ (∀ g, (Value.slice A (ofX D K f t).length c).ownBlock = some g → v.ownBlock = some g) := by
  obtain ⟨A, c, rfl, hc⟩ := hs.sl.form
  have HIX := hide (indexOf_any (.slice A n c) D n w.heap.size kb kA kc K f t w hs.sl hD (Nat.le_refl _) (hK w (Fr.refl _ _)).2 (hK w (Fr.refl _ _)).1 (by omega))
  have HS := hide hs
  have HD := hide hD
  have HK := hide hK
  clear hs hD hK
  go_enter Try.func39, Try.ntmps39
  go_wp2_with fail
  refine HIX.out.mono ?_
  clear HIX
  rintro e w1 ⟨⟨r, rfl, hr⟩, hb1⟩
  have HB1 := hide hb1
  clear hb1
  rcases hr with ⟨rfl, hall⟩ | ⟨k, rfl, hkD, hko, hkt⟩
  · have HO : Hid (ofX D K f t = D) := by
      unfold ofX
      exact List.filter_eq_self.2 (fun x hx => by rw [hall x hx]; rfl)
    clear hall
    go_wp2_with fail
    go_ret
    rw [HO.out, HD.out]
    exact ⟨A, c, rfl, HS.out.below HB1.out, Fr.of_below HB1.out, fun g hg => hg⟩
  · have hkn : k < n := by rw [← HD.out]; exact hkD
    obtain ⟨g, cap, hv, _, _, _, hgl⟩ := HS.out.pos (by omega)
    injection hv with hv _ hcc
    subst hcc
    subst hv
    obtain ⟨ad, had⟩ : ∃ ad : Addr, ad = ⟨g, 0, none⟩ := ⟨_, rfl⟩
    have HADB : Hid (ad.block = g ∧ ∀ j, (Value.slice (some ad) n c).ownBlock = some j ↔ j = ad.block) := by
      rw [had]
      refine ⟨rfl, fun j => ?_⟩
      simp [Value.ownBlock]
      exact eq_comm
    rw [← had] at HS HK ⊢
    have HAD := hide had
    clear had
    have HI0 : Hid (DelI w w1 base ad n c D D K f t k (k + 1)) := by
      refine ⟨HS.out.below HB1.out, HD.out, ?_, rfl, Fr.of_below HB1.out⟩
      rw [List.take_succ_eq_append_getElem hkD]
      unfold ofX
      rw [List.filter_append, List.filter_eq_self.2 (fun x hx => by rw [hkt x hx]; rfl)]
      simp [hko]
    clear hko hkt
    have hm1 : ((k : Int) = -1) = False := eq_false (by omega)
    have hm2 : ((k : Int) == -1) = false := by simp [hm1]
    go_wp2_with fail
    go_loopw [5, 6] (fun iv jv wr => ∃ (i j : Nat) (S : List TV), i < j ∧ j ≤ n ∧ iv = .int .i64 i ∧ jv = .int .i64 j ∧ Hid (DelI w wr base ad n c D S K f t i j)) (fun _ jv _ => n - (intOf jv).toNat)
    case atStart => exact ⟨k, k + 1, D, by omega, by omega, rfl, by simp, HI0.out⟩
    case round =>
      obtain ⟨i, j, S, hij, hjn, rfl, rfl, HI⟩ := hrel
      by_cases hlt : j < n
      · have hjS : j < S.length := by rw [HI.out.ln]; exact hlt
        have hjD : j < D.length := by rw [HD.out]; exact hlt
        obtain ⟨ad', had, hab, a0, a1, a2, a3, a4⟩ := tm_at HI.out.own.sl hlt HI.out.ln
        injection had with had
        subst had
        rw [(HI.out.get hlt HD.out).1] at a0 a1 a2 a3 a4
        have hkx := ((HK.out wr (HI.out.fr.mono (fun j _ h => (HADB.out.2 j).2 h))).2 _ (List.getElem_mem hjD)).sl.form
        have HOF := hide (of1_any D[j] wr.heap.size kb kA kc K f t)
        obtain ⟨x, hx⟩ : ∃ x, x = D[j] := ⟨_, rfl⟩
        have HXI := hide hx
        have HXM : Hid (x ∈ D) := by rw [hx]; exact List.getElem_mem hjD
        rw [← hx] at a0 a1 a2 a3 a4 hkx
        clear hx HOF
        have HIA : Hid (∀ cs, DelI w (wr.alloc (.cells cs tmT)) base ad n c D S K f t i j) := fun cs => HI.out.below ((Below.refl _ _).alloc (Nat.le_refl _) _)
        have HC1 : Hid (∀ Z : World, Fr (fun k => k = ad.block) w Z → Calls Try.prog 40 #[.agg x.cells.toArray, .pointer (some ⟨kb, 0, none⟩)] Z fun e w' => e = .returned (.bool (offK K f t x)) ∧ Below Z.heap.size Z w') := fun Z hZ => by
          obtain ⟨k1, k2⟩ := HK.out Z (hZ.mono (fun j _ h => (HADB.out.2 j).2 h))
          exact of1_any x Z.heap.size kb kA kc K f t Z (k2 x HXM.out) k1 (Nat.le_refl _)
        obtain ⟨bb, hbb⟩ : ∃ b, b = offK K f t x := ⟨_, rfl⟩
        have HBB := hide hbb
        rw [← hbb] at HC1
        clear hbb
        obtain ⟨xA, xc, hkx, _⟩ := hkx
        obtain ⟨xa, xk, xb, xf, xt, xw⟩ := x
        unfold TV.cells at HC1
        simp only at hkx a0 a1 a2 a3 a4 HC1
        subst hkx
        have HBX : Hid (∀ W : World, Blk (W.alloc (.cells #[.int .i64 xa, .slice xA xb.length xc, .int .i64 xf, .int .i64 xt, .int .i64 xw] tmT)) W.heap.size tmT #[.int .i64 xa, .slice xA xb.length xc, .int .i64 xf, .int .i64 xt, .int .i64 xw]) := fun W => Blk.new W _ _
        go_wp2_with fail
        refine (HC1.out _ (HIA.out _).fr).mono ?_
        rintro e w2 ⟨rfl, hb2⟩
        have HI2 := hide ((HIA.out _).below hb2)
        have HX2 := hide ((HBX.out wr).below hb2 (HBX.out wr).lt)
        clear hb2 HIA HC1 HI a0 a1 a2 a3 a4 hab HBX
        obtain ⟨pb, hpb⟩ : ∃ pb, pb = wr.heap.size := ⟨_, rfl⟩
        rw [← hpb] at HX2 ⊢
        clear hpb
        cases bb
        · have hiS : i < n := by omega
          obtain ⟨ad', had, hib, b0, b1, b2, b3, b4⟩ := tm_at HI2.out.own.sl hiS HI2.out.ln
          injection had with had
          subst had
          have f0 := HI2.out.own.frz (i * 5)
          have f1 := HI2.out.own.frz (i * 5 + 1)
          have f2 := HI2.out.own.frz (i * 5 + 2)
          have f3 := HI2.out.own.frz (i * 5 + 3)
          have f4 := HI2.out.own.frz (i * 5 + 4)
          rw [add_fld ad (i * 5) 1 (by omega)] at f1
          rw [add_fld ad (i * 5) 2 (by omega)] at f2
          rw [add_fld ad (i * 5) 3 (by omega)] at f3
          rw [add_fld ad (i * 5) 4 (by omega)] at f4
          have p0 : w2.cell? ⟨pb, 0, none⟩ = some (.int .i64 xa) := HX2.out.cell 0
          have p1 : w2.cell? ⟨pb, 1, none⟩ = some (.slice xA xb.length xc) := HX2.out.cell 1
          have p2 : w2.cell? ⟨pb, 2, none⟩ = some (.int .i64 xf) := HX2.out.cell 2
          have p3 : w2.cell? ⟨pb, 3, none⟩ = some (.int .i64 xt) := HX2.out.cell 3
          have p4 : w2.cell? ⟨pb, 4, none⟩ = some (.int .i64 xw) := HX2.out.cell 4
          have hpl := HX2.out.lt
          obtain ⟨m1, m2, m3, m4⟩ := chain5 w2 (ad.add (i * 5)) (.int .i64 xa) (.slice xA xb.length xc) (.int .i64 xf) (.int .i64 xt) _ _ _ _ b1 b2 b3 b4
          have HI3 : Hid (DelI w (put5 w2 (ad.add (i * 5)) ⟨xa, .slice xA xb.length xc, xb, xf, xt, xw⟩) base ad n c D (S.set i ⟨xa, .slice xA xb.length xc, xb, xf, xt, xw⟩) K f t (i + 1) (j + 1)) := HI2.out.move hlt HD.out hij HXI.out HBB.out.symm
          have i0 : (0 : Int) ≤ (i : Int) := by omega
          have i1 : (i : Int) < (n : Int) := by omega
          go_wp2_with fail
          go_roundw
          case rel => exact ⟨i + 1, j + 1, _, by omega, by omega, by simp, by simp, HI3.out⟩
          case measure => simp [intOf]; omega
        · have HI3 : Hid (DelI w w2 base ad n c D S K f t i (j + 1)) := HI2.out.skip hlt HD.out (by rw [← HXI.out]; exact HBB.out.symm)
          go_wp2_with fail
          go_roundw
          case rel => exact ⟨i, j + 1, S, by omega, by omega, rfl, by simp, HI3.out⟩
          case measure => simp [intOf]; omega
      · have hjj : j = n := by omega
        have hin : i < n := by omega
        have HFL : Hid (S.take i = ofX D K f t) := by
          have h9 := HI.out.lo
          rw [hjj, show D.take n = D from List.take_of_length_le (by rw [HD.out]; omega)] at h9
          exact h9
        have HLN : Hid ((ofX D K f t).length = i) := by
          show _ = _
          rw [← HFL.out, List.length_take, HI.out.ln]
          omega
        obtain ⟨w9, hrun, ho9, hf9⟩ := clear_own (ty := 0) HI.out.own HI.out.ln hin
        have HO9 := hide ho9
        have HF9 := hide hf9
        clear ho9 hf9
        have hcn := HI.out.own.sl.inv.2.1
        have hci : (c = i) = False := eq_false (by omega)
        have i0 : (0 : Int) ≤ (i : Int) := by omega
        have i1 : (i : Int) ≤ (n : Int) := by omega
        have i2 : (i : Int) ≤ (c : Int) := by omega
        have i3 : (n : Int) ≤ (c : Int) := by omega
        go_wp2_with fail
        go_ret
        rw [HLN.out]
        refine ⟨some ad, c, rfl, ?_, ?_, fun j hj => by rw [← HAD.out]; exact hj⟩
        · rw [← HFL.out]; exact HO9.out
        · rw [← HAD.out]; exact (HI.out.fr.trans HF9.out (fun _ _ h => h)).mono (fun j _ h => (HADB.out.2 j).2 h)

set_option maxRecDepth 100000 in
set_option maxHeartbeats 8000000 in
theorem hof_any (w : World) (base hb tb mb b0 : Nat) (lv : Value) (L : List TV) (kA : Option Addr) (kn kc : Nat) (K : List Int) (f t : Int) (h : HpS w base hb tb mb lv L) (hk : Own w b0 bT 1 (.slice kA kn kc) kn (bys K)) (hkn : K.length = kn) (h8 : Bytes8 K) :
    Calls Try.prog 24 #[.pointer (some ⟨hb, 0, none⟩), .agg #[.slice kA kn kc, .int .i64 f, .int .i64 t]] w fun e w' => ∃ (E : List TV) (A : Option Addr) (c : Nat), e = .returned (.slice A (ofX E K f t).length c) ∧
      Own w' w.heap.size tmT 5 (.slice A (ofX E K f t).length c) (ofX E K f t).length (tms (ofX E K f t)) ∧ Below w.heap.size w w' ∧ (E.map TV.d).Perm (L.map TV.d) ∧ E.Pairwise leT ∧ (∀ x ∈ E, KeyO w' w.heap.size x) := by
  have hln := h.hp.ln
  have HH := hide h
  have HK := hide hk
  have HKN := hide hkn
  have H8 := hide h8
  clear h hk hkn h8
  have HB1 : Hid (Below w.heap.size w (w.alloc (.cells #[.slice kA kn kc, .int .i64 f, .int .i64 t] keyT))) := (Below.refl _ _).alloc (Nat.le_refl _) _
  have HP1 : Hid (Blk (w.alloc (.cells #[.slice kA kn kc, .int .i64 f, .int .i64 t] keyT)) w.heap.size keyT #[.slice kA kn kc, .int .i64 f, .int .i64 t]) := Blk.new w _ _
  have HA := hide (hall_any _ base hb tb mb lv L (HH.out.below HB1.out))
  have HK1 := hide (HK.out.below HB1.out)
  go_enter Try.func24, Try.ntmps24
  go_wp2_with fail
  refine HA.out.mono ?_
  clear HA
  change ∀ _ _, _
  generalize (w.alloc (.cells #[.slice kA kn kc, .int .i64 f, .int .i64 t] keyT)) = w1 at *
  rintro e w2 ⟨E, eA, ec, rfl, ho2, hky2, hpm2, hso2, hb2⟩
  have HO2 := hide ho2
  have HKY2 := hide hky2
  have HPM := hide hpm2
  have HSO := hide hso2
  have HB2 := hide hb2
  have hel : E.length ≤ 100000 := by
    have h9 := hpm2.length_eq
    simp only [List.length_map] at h9
    omega
  obtain ⟨kb, hkb⟩ : ∃ kb, kb = w.heap.size := ⟨_, rfl⟩
  rw [← hkb] at HP1 ⊢
  have hz1 := HB1.out.size
  clear hkb ho2 hky2 hpm2 hso2 hb2
  have HKX : Hid (∀ X, Fr (fun k => (Value.slice eA E.length ec).ownBlock = some k) w2 X → KeyB X X.heap.size kb kA kc K f t ∧ ∀ x ∈ E, KeyIn X X.heap.size x) := by
    intro X hX
    have hty := HO2.out.typed
    refine ⟨⟨?_, ?_, H8.out⟩, fun x hx => ?_⟩
    · rw [HKN.out]
      exact hX.blk (HP1.out.below HB2.out HP1.out.lt) (fun e => by obtain ⟨c2, k⟩ := hty _ e; exact (HP1.out.below HB2.out HP1.out.lt).apart k (by decide) rfl)
    · rw [HKN.out]
      exact ((HK1.out.below HB2.out).fr hX (fun g hg e => by obtain ⟨c2, k⟩ := hty _ e; exact (HK1.out.below HB2.out).ne k (by decide) hg)).sl
    · have h9 := (HKY2.out x hx).fr hX (fun g cs hc e => by obtain ⟨c2, k⟩ := hty _ e; exact hc.apart k (by decide) rfl)
      exact ⟨h9.1.sl, h9.2.1⟩
  have HDF := hide (delf_any w2 w1.heap.size kb (.slice eA E.length ec) E E.length kA kc K f t HO2.out rfl hel HKX.out)
  clear HKX
  go_wp2_with fail
  refine HDF.out.mono ?_
  rintro e w3 ⟨A, c, rfl, ho3, hf3, hat3⟩
  have HR : Hid (Own w3 w.heap.size tmT 5 (.slice A (ofX E K f t).length c) (ofX E K f t).length (tms (ofX E K f t)) ∧ Below w.heap.size w w3 ∧ (∀ x ∈ E, KeyO w3 w.heap.size x)) := by
    refine ⟨ho3.lower hz1, (HB1.out.trans (HB2.out.mono hz1)).trans (hf3.below (Nat.le_trans hz1 HB2.out.size) (fun j hj e => by have := (HO2.out.lt j e).1; omega)), fun x hx => ?_⟩
    have h9 := (HKY2.out x hx).fr hf3 (fun g cs hc e => by obtain ⟨c2, k⟩ := HO2.out.typed _ e; exact hc.apart k (by decide) rfl)
    exact ⟨h9.1.lower hz1, h9.2⟩
  clear ho3 hf3 hat3 HDF
  go_wp2_with fail
  go_ret
  exact ⟨E, A, c, rfl, HR.out.1, HR.out.2.1, HPM.out, HSO.out, HR.out.2.2⟩

end Go.Proofs.Ytogelnljkdcajaa

namespace Go.Proofs.Ytogelnljkdcajaa
open Go.RowKit Go.Sort
set_option linter.unusedVariables false
set_option linter.unusedSimpArgs false

theorem strOf_inj {D E : List Int} (h1 : Bytes8 D) (h2 : Bytes8 E) (h : strOfNums D = strOfNums E) : D = E := by
  have h3 := str_eq D E h1 h2
  rw [h] at h3
  simp only [BEq.rfl] at h3
  exact of_decide_eq_true h3.symm
theorem hit_nm {t y : TV} (h1 : Bytes8 t.kb) (h2 : Bytes8 y.kb) : hit t y = decide (y.nm = t.nm) := by
  obtain ⟨ta, tk, tb, tf, tt, tw⟩ := t
  obtain ⟨ya, yk, yb, yf, yt, yw⟩ := y
  have h3 : (⟨strOfNums yb, yf, yt, yw⟩ : Nm) = ⟨strOfNums tb, tf, tt, tw⟩ ↔ yb = tb ∧ yf = tf ∧ yt = tt ∧ yw = tw := by
    constructor
    · intro h
      injection h with h4 h5 h6 h7
      exact ⟨strOf_inj h2 h1 h4, h5, h6, h7⟩
    · rintro ⟨rfl, rfl, rfl, rfl⟩
      rfl
  have h4 : (⟨yf, yt⟩ : Win) = ⟨tf, tt⟩ ↔ yf = tf ∧ yt = tt := by
    constructor
    · intro h
      injection h with h5 h6
      exact ⟨h5, h6⟩
    · rintro ⟨rfl, rfl⟩
      rfl
  unfold hit oneK
  rw [← Bool.decide_and]
  refine decide_eq_decide.2 ?_
  show ((⟨yf, yt⟩ : Win) = ⟨tf, tt⟩ ∧ yb = tb) ∧ yw = tw ↔ (⟨strOfNums yb, yf, yt, yw⟩ : Nm) = ⟨strOfNums tb, tf, tt, tw⟩
  rw [h3, h4]
  constructor
  · rintro ⟨⟨⟨h5, h6⟩, h7⟩, h8⟩
    exact ⟨h7, h5, h6, h8⟩
  · rintro ⟨h7, h5, h6, h8⟩
    exact ⟨⟨⟨h5, h6⟩, h7⟩, h8⟩
/-- filters that ask for the same -/
theorem filter_d (p : TV → Bool) (q : TD → Bool) (X : List TV) (h : ∀ x ∈ X, p x = q x.d) : (X.filter p).map TV.d = (X.map TV.d).filter q := by
  induction X with
  | nil => rfl
  | cons x X ih =>
    have h1 := h x List.mem_cons_self
    have h2 := ih (fun y hy => h y (List.mem_cons_of_mem _ hy))
    rw [List.map_cons, List.filter_cons, List.filter_cons, h1]
    split
    · rw [List.map_cons, h2]
    · exact h2
theorem canX_d {X : List TV} {t : TV} (h1 : Bytes8 t.kb) (h2 : ∀ x ∈ X, Bytes8 x.kb) : (canX X t).map TV.d = canD (X.map TV.d) t.nm := by
  unfold canX canD
  refine filter_d _ _ X (fun x hx => ?_)
  rw [hit_nm h1 (h2 x hx), TV.d_nm]
  by_cases h : x.nm = t.nm
  · simp [h]
  · simp [h]
theorem insX_perm (Y : List TV) (t : TV) : (insX Y t).Perm (Y ++ [t]) := by
  induction Y with
  | nil => exact List.Perm.refl _
  | cons y Y ih =>
    unfold insX
    split
    · exact (List.perm_append_singleton t (y :: Y)).symm
    · exact ih.cons y
theorem insX_sorted {Y : List TV} {t : TV} (h : Y.Pairwise leT) : (insX Y t).Pairwise leT := by
  induction Y with
  | nil => exact List.pairwise_singleton _ _
  | cons y Y ih =>
    rw [List.pairwise_cons] at h
    unfold insX
    split
    · rename_i hl
      refine List.pairwise_cons.2 ⟨fun z hz => ?_, List.pairwise_cons.2 h⟩
      rcases List.mem_cons.1 hz with rfl | hz
      · exact ltT_le hl
      · exact leT_trans (ltT_le hl) (h.1 z hz)
    · rename_i hl
      refine List.pairwise_cons.2 ⟨fun z hz => ?_, ih h.2⟩
      rcases List.mem_append.1 ((insX_perm Y t).mem_iff.1 hz) with hz | hz
      · exact h.1 z hz
      · rw [List.mem_singleton.1 hz]
        exact nlt_le (by simpa using hl)
theorem setX_sorted {X : List TV} {t : TV} (h : X.Pairwise leT) : (setX X t).Pairwise leT := insX_sorted (h.sublist List.filter_sublist)
theorem setX_d {X : List TV} {t : TV} (h1 : Bytes8 t.kb) (h2 : ∀ x ∈ X, Bytes8 x.kb) : ((setX X t).map TV.d).Perm (setD (X.map TV.d) t.d) := by
  refine ((insX_perm (canX X t) t).map TV.d).trans ?_
  rw [List.map_append, canX_d h1 h2]
  exact List.Perm.refl _
theorem setX_mem {X : List TV} {t x : TV} (h : x ∈ setX X t) : x ∈ X ∨ x = t := by
  rcases List.mem_append.1 ((insX_perm (canX X t) t).mem_iff.1 h) with h | h
  · exact .inl (canX_sub h)
  · exact .inr (List.mem_singleton.1 h)
theorem setD_perm {l l' : List TD} (h : l.Perm l') (x : TD) : (setD l x).Perm (setD l' x) := (h.filter _).append_right _
theorem sets_perm {l l' : List TD} (h : l.Perm l') (D : List TD) : (D.foldl setD l).Perm (D.foldl setD l') := by
  induction D generalizing l l' with
  | nil => exact h
  | cons x D ih => exact ih (setD_perm h x)

/-- the reference's row X holds the heap's timers L, in order -/
structure Pl (L X : List TV) : Prop where
  pm : (X.map TV.d).Perm (L.map TV.d)
  so : X.Pairwise leT
  b8 : ∀ x ∈ X, Bytes8 x.kb
theorem Pl.len {L X : List TV} (h : Pl L X) : X.length = L.length := by
  have := h.pm.length_eq
  simpa using this
/-- All -/
theorem Pl.all {L X E : List TV} (h : Pl L X) (hE : (E.map TV.d).Perm (L.map TV.d)) (hs : E.Pairwise leT) : E.map TV.d = X.map TV.d := sorted_eq (hE.trans h.pm.symm) hs h.so
/-- Next -/
theorem Pl.next {L X : List TV} (h : Pl L X) (h0 : 0 < X.length) (hm : gt L 0 ∈ L) (hle : ∀ y ∈ L, leT (gt L 0) y) : (gt L 0).d = X[0].d := by
  have h1 : X[0].d ∈ L.map TV.d := h.pm.mem_iff.1 (List.mem_map_of_mem (List.getElem_mem h0))
  obtain ⟨y, hy, hyd⟩ := List.mem_map.1 h1
  have h2 : (gt L 0).d ∈ X.map TV.d := h.pm.mem_iff.2 (List.mem_map_of_mem hm)
  obtain ⟨z, hz, hzd⟩ := List.mem_map.1 h2
  refine leD_anti _ _ ?_ ?_
  · rw [← hyd]
    exact (leD_d _ _).2 (hle y hy)
  · rw [← hzd]
    refine (leD_d _ _).2 ?_
    obtain ⟨i, hi, rfl⟩ := List.getElem_of_mem hz
    cases i with
    | zero => exact leT_refl _
    | succ i => exact List.pairwise_iff_getElem.1 h.so 0 (i + 1) h0 hi (by omega)
/-- Due -/
theorem Pl.due {w0 w w' : World} {hb tb mb : Nat} {lv lv' : Value} {L L' O X : List TV} {now : Int} {A : Option Addr} {c : Nat} (h : Pl L X) (d : DueR w0 w w' hb tb mb lv lv' L L' O now A c) : O.map TV.d = (dueX X now).map TV.d ∧ Pl L' (lateX X now) := by
  have k1 : ∀ Y : List TV, (dueX Y now).map TV.d = (Y.map TV.d).filter (fun y => decide (y.a ≤ now)) := fun Y => filter_d _ _ Y (fun x _ => rfl)
  have k2 : ∀ Y : List TV, (lateX Y now).map TV.d = (Y.map TV.d).filter (fun y => !decide (y.a ≤ now)) := fun Y => filter_d _ _ Y (fun x _ => rfl)
  have hpm : (X.map TV.d).Perm ((O ++ L').map TV.d) := h.pm.trans (d.pm.map TV.d)
  have e1 : dueX (O ++ L') now = O := by
    unfold dueX
    rw [List.filter_append, List.filter_eq_self.2 (fun x hx => decide_eq_true (d.du x hx)), List.filter_eq_nil_iff.2 (fun y hy => ?_), List.append_nil]
    have := d.nd y hy
    simpa using this
  have e2 : lateX (O ++ L') now = L' := by
    unfold lateX
    rw [List.filter_append, List.filter_eq_nil_iff.2 (fun y hy => ?_), List.filter_eq_self.2 (fun x hx => ?_), List.nil_append]
    · have := d.nd x hx
      simpa using this
    · have := d.du y hy
      simpa using this
  have p1 := hpm.filter (fun y => decide (y.a ≤ now))
  have p2 := hpm.filter (fun y => !decide (y.a ≤ now))
  rw [← k1, ← k1, e1] at p1
  rw [← k2, ← k2, e2] at p2
  refine ⟨sorted_eq p1.symm d.so (h.so.sublist List.filter_sublist), p2, h.so.sublist List.filter_sublist, fun x hx => h.b8 x (List.mem_filter.1 hx).1⟩
/-- Of -/
theorem Pl.of {L X E : List TV} {t : TV} (h : Pl L X) (hE : (E.map TV.d).Perm (L.map TV.d)) (hs : E.Pairwise leT) : (ofX E t.kb t.f t.t).map TV.d = (X.filter (fun x => oneK x t)).map TV.d := by
  have k1 : (ofX E t.kb t.f t.t).map TV.d = (E.map TV.d).filter (fun x => decide (x.b = t.kb ∧ x.f = t.f ∧ x.t = t.t)) := by
    refine filter_d _ _ E (fun x _ => ?_)
    unfold offK
    rw [Bool.not_not]
    rfl
  have k2 : (X.filter (fun x => oneK x t)).map TV.d = (X.map TV.d).filter (fun x => decide (x.b = t.kb ∧ x.f = t.f ∧ x.t = t.t)) := by
    refine filter_d _ _ X (fun x _ => ?_)
    unfold oneK
    refine decide_eq_decide.2 ?_
    obtain ⟨xa, xk, xb, xf, xt, xw⟩ := x
    show (⟨xf, xt⟩ : Win) = ⟨t.f, t.t⟩ ∧ xb = t.kb ↔ xb = t.kb ∧ xf = t.f ∧ xt = t.t
    constructor
    · rintro ⟨h1, h2⟩
      injection h1 with h3 h4
      exact ⟨h2, h3, h4⟩
    · rintro ⟨h2, h3, h4⟩
      exact ⟨by rw [h3, h4], h2⟩
  rw [k1, k2, h.all hE hs]
/-- Cancel -/
theorem Pl.can {L L' X : List TV} {z t : TV} {ok : Bool} (h : Pl L X) (hnd : (L.map TV.nm).Nodup) (h8 : Bytes8 t.kb) (res : (ok = true ∧ z ∈ L ∧ z.nm = t.nm ∧ L.Perm (L' ++ [z])) ∨ (ok = false ∧ z = tz ∧ t.nm ∉ L.map TV.nm ∧ L' = L)) :
    ok = wasX X t ∧ (ok = true → z.d = (goneX X t).d) ∧ (ok = false → z.a = 0) ∧ Pl L' (canX X t) := by
  have hnx : (X.map TV.nm) = (X.map TV.d).map TD.nm := by rw [List.map_map]; rfl
  have hnl : (L.map TV.nm) = (L.map TV.d).map TD.nm := by rw [List.map_map]; rfl
  have hmem : t.nm ∈ L.map TV.nm ↔ wasX X t = true := by
    rw [hnl, (h.pm.map TD.nm).mem_iff.symm, ← hnx]
    unfold wasX
    rw [List.any_eq_true, List.mem_map]
    constructor
    · rintro ⟨x, hx, e⟩
      exact ⟨x, hx, by rw [hit_nm h8 (h.b8 x hx)]; exact decide_eq_true e⟩
    · rintro ⟨x, hx, e⟩
      rw [hit_nm h8 (h.b8 x hx)] at e
      exact ⟨x, hx, of_decide_eq_true e⟩
  have hcd := canX_d h8 h.b8
  have hcp : ((canX X t).map TV.d).Perm (canD (L.map TV.d) t.nm) := by
    rw [hcd]
    exact h.pm.filter _
  have hcs : (canX X t).Pairwise leT := h.so.sublist List.filter_sublist
  have hc8 : ∀ x ∈ canX X t, Bytes8 x.kb := fun x hx => h.b8 x (canX_sub hx)
  rcases res with ⟨h1, h2, h3, h4⟩ | ⟨h1, h2, h3, h4⟩
  · have hw : wasX X t = true := hmem.1 (by rw [← h3]; exact List.mem_map_of_mem h2)
    refine ⟨by rw [h1, hw], fun _ => ?_, fun h9 => by rw [h1] at h9; (cases h9), ⟨?_, hcs, hc8⟩⟩
    · have hg : goneX X t ∈ X ∧ hit t (goneX X t) = true := by
        unfold goneX
        have hne : X.filter (hit t) ≠ [] := by
          intro he
          unfold wasX at hw
          obtain ⟨x, hx, e⟩ := List.any_eq_true.1 hw
          have : x ∈ X.filter (hit t) := List.mem_filter.2 ⟨hx, e⟩
          rw [he] at this
          cases this
        rw [List.getLast?_eq_some_getLast hne, Option.getD_some]
        exact List.mem_filter.1 (List.getLast_mem hne)
      rw [hit_nm h8 (h.b8 _ hg.1)] at hg
      have hgn := of_decide_eq_true hg.2
      obtain ⟨y, hy, hyd⟩ := List.mem_map.1 (h.pm.mem_iff.1 (List.mem_map_of_mem (f := TV.d) hg.1))
      have hyn : y.nm = (goneX X t).nm := congrArg TD.nm hyd
      have hzy : z = y := by
        obtain ⟨i, hi, rfl⟩ := List.getElem_of_mem h2
        obtain ⟨j, hj, rfl⟩ := List.getElem_of_mem hy
        have he : (L.map TV.nm)[i]'(by simpa using hi) = (L.map TV.nm)[j]'(by simpa using hj) := by
          rw [List.getElem_map, List.getElem_map, h3, hyn, hgn]
        have := (List.getElem_inj hnd).1 he
        subst this
        rfl
      rw [hzy]
      exact hyd
    · have h5 := (canD_some h4 hnd).1
      rw [h3] at h5
      exact hcp.trans h5.symm
  · have hw : wasX X t = false := by
      rw [← Bool.not_eq_true]
      exact fun h9 => h3 (hmem.2 h9)
    refine ⟨by rw [h1, hw], fun h9 => by rw [h1] at h9; (cases h9), fun _ => by rw [h2]; rfl, ⟨?_, hcs, hc8⟩⟩
    rw [canD_none h3] at hcp
    rw [h4]
    exact hcp
/-- Set: the reference puts them in one by one -/
def setsX (X : List TV) (D : List TV) : List TV := D.foldl setX X
theorem setsX_snoc (X D : List TV) (t : TV) : setsX X (D ++ [t]) = setX (setsX X D) t := by
  unfold setsX
  rw [List.foldl_append]
  rfl
theorem Pl.set {L L' X D : List TV} (h : Pl L X) (h8 : ∀ t ∈ D, Bytes8 t.kb) (hp : (L'.map TV.d).Perm ((D.map TV.d).foldl setD (L.map TV.d))) : Pl L' (setsX X D) := by
  have key : ∀ (D X : List TV), X.Pairwise leT → (∀ x ∈ X, Bytes8 x.kb) → (∀ t ∈ D, Bytes8 t.kb) → ((setsX X D).map TV.d).Perm ((D.map TV.d).foldl setD (X.map TV.d)) ∧ (setsX X D).Pairwise leT ∧ ∀ x ∈ setsX X D, Bytes8 x.kb := by
    intro D
    induction D with
    | nil => exact fun X h1 h2 _ => ⟨List.Perm.refl _, h1, h2⟩
    | cons t D ih =>
      intro X h1 h2 h3
      have ht := h3 t List.mem_cons_self
      obtain ⟨k1, k2, k3⟩ := ih (setX X t) (setX_sorted h1) (fun x hx => by
        rcases setX_mem hx with hx | hx
        · exact h2 x hx
        · rw [hx]; exact ht) (fun s hs => h3 s (List.mem_cons_of_mem _ hs))
      exact ⟨k1.trans (sets_perm (setX_d ht h2) _), k2, k3⟩
  obtain ⟨k1, k2, k3⟩ := key D X h.so h.b8 h8
  exact ⟨k1.trans ((sets_perm h.pm _).trans hp.symm), k2, k3⟩
theorem setsX_len (X D : List TV) : (setsX X D).length ≤ X.length + D.length := by
  unfold setsX
  induction D generalizing X with
  | nil => simp
  | cons t D ih =>
    have h1 := ih (setX X t)
    have h2 := insX_len (canX X t) t
    have h3 := canX_len X t
    unfold setX at h1
    rw [List.foldl_cons, List.length_cons]
    unfold setX
    omega

end Go.Proofs.Ytogelnljkdcajaa
