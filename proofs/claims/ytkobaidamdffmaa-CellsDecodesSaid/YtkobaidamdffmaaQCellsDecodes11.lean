/- cells.place.order of any two places. / Decode, plain: one record, a row of records, a table's bytes. / The reference's Decode, plain: one record field by field. -/
import Derived.Test.YtkobaidamdffmaaQCellsDecodes04
import Derived.Test.YtkobaidamdffmaaQCellsDecodes10

namespace Go.Proofs.Ytkobaidamdffmaa
open Go.RowKit Go.Sort
set_option linter.unusedVariables false
set_option linter.unusedSimpArgs false

/-- the order of any two places, right or not -/
def ordW (xb yb : List Int) (xf xt yf yt : Int) : Int := if wlt ⟨xf, xt⟩ ⟨yf, yt⟩ then -1 else if wlt ⟨yf, yt⟩ ⟨xf, xt⟩ then 1 else cmpB xb yb
theorem ordW_eq (x y : PK) : ordW x.b y.b x.f x.t y.f y.t = ordP x y := rfl
set_option maxHeartbeats 4000000 in
theorem pord_raw (xb yb : List Int) (xf xt yf yt : Int) (h1 : Bytes8 xb) (h2 : Bytes8 yb) (w : World) : Calls Try.prog 51 #[.agg #[.string (strOfNums xb), .int .i64 xf, .int .i64 xt], .agg #[.string (strOfNums yb), .int .i64 yf, .int .i64 yt]] w fun e w' => e = .returned (.int .i64 (ordW xb yb xf xt yf yt)) ∧ ∃ q os, w' = grow (w.drewN q) os := by
  have HSC := hide (fun W => scmp_any xb yb W h1 h2)
  obtain ⟨r, hr⟩ : ∃ r, r = ordW xb yb xf xt yf yt := ⟨_, rfl⟩
  rw [← hr]
  have HR : Hid (r = if wlt ⟨xf, xt⟩ ⟨yf, yt⟩ then -1 else if wlt ⟨yf, yt⟩ ⟨xf, xt⟩ then 1 else cmpB xb yb) := hr
  clear h1 h2
  generalize hxs : strOfNums xb = xs at *
  generalize hys : strOfNums yb = ys at *
  clear hr hxs hys
  have HG : Hid (∃ q os, ((w.alloc (.cells #[.string xs, .int .i64 xf, .int .i64 xt] plT)).alloc (.cells #[.string ys, .int .i64 yf, .int .i64 yt] plT)) = grow (w.drewN q) os) := grow_trans (grow_alloc _ _) (grow_alloc _ _)
  have HP : Hid (Blk ((w.alloc (.cells #[.string xs, .int .i64 xf, .int .i64 xt] plT)).alloc (.cells #[.string ys, .int .i64 yf, .int .i64 yt] plT)) w.heap.size plT #[.string xs, .int .i64 xf, .int .i64 xt]) := (Blk.new w _ _).alloc _
  have HQ : Hid (Blk ((w.alloc (.cells #[.string xs, .int .i64 xf, .int .i64 xt] plT)).alloc (.cells #[.string ys, .int .i64 yf, .int .i64 yt] plT)) (w.heap.size + 1) plT #[.string ys, .int .i64 yf, .int .i64 yt]) := by
    have h9 := Blk.new (w.alloc (.cells #[.string xs, .int .i64 xf, .int .i64 xt] plT)) plT #[.string ys, .int .i64 yf, .int .i64 yt]
    simpa [Hid] using h9
  go_enter Try.func51, Try.ntmps51
  go_wp2_with fail
  generalize (w.alloc (.cells #[.string xs, .int .i64 xf, .int .i64 xt] plT)).alloc (.cells #[.string ys, .int .i64 yf, .int .i64 yt] plT) = w1 at *
  obtain ⟨pb, hpb⟩ : ∃ pb, pb = w.heap.size := ⟨_, rfl⟩
  obtain ⟨qb, hqb⟩ : ∃ qb, qb = w.heap.size + 1 := ⟨_, rfl⟩
  rw [← hqb] at HQ ⊢
  rw [← hpb] at HP ⊢
  clear hpb hqb
  refine (less_grow7 xf xt yf yt w1).mono ?_
  rintro e w2 ⟨rfl, hg2⟩
  have HG2 := hide (grow_trans HG.out hg2)
  have HP2 := hide (HP.out.below (grow_bel hg2) HP.out.lt)
  have HQ2 := hide (HQ.out.below (grow_bel hg2) HQ.out.lt)
  clear hg2
  by_cases h1 : wlt ⟨xf, xt⟩ ⟨yf, yt⟩
  · have HF : Hid (r = -1) := by rw [Hid, HR.out, if_pos h1]
    rw [decide_eq_true h1]
    clear h1
    go_wp2_with fail
    go_ret
    rw [HF.out]
    exact ⟨rfl, HG2.out⟩
  · have HF : Hid (r = if wlt ⟨yf, yt⟩ ⟨xf, xt⟩ then 1 else cmpB xb yb) := by rw [Hid, HR.out, if_neg h1]
    rw [decide_eq_false h1]
    clear h1
    have p1 : w2.cell? ⟨pb, 1, none⟩ = some (.int .i64 xf) := HP2.out.cell 1
    have p2 : w2.cell? ⟨pb, 2, none⟩ = some (.int .i64 xt) := HP2.out.cell 2
    have q1 : w2.cell? ⟨qb, 1, none⟩ = some (.int .i64 yf) := HQ2.out.cell 1
    have q2 : w2.cell? ⟨qb, 2, none⟩ = some (.int .i64 yt) := HQ2.out.cell 2
    have hpl := HP2.out.lt
    have hql := HQ2.out.lt
    go_wp2_with fail
    refine (less_grow7 yf yt xf xt w2).mono ?_
    rintro e w3 ⟨rfl, hg3⟩
    have HG3 := hide (grow_trans HG2.out hg3)
    have HP3 := hide (HP2.out.below (grow_bel hg3) HP2.out.lt)
    have HQ3 := hide (HQ2.out.below (grow_bel hg3) HQ2.out.lt)
    clear hg3 p1 p2 q1 q2 hpl hql
    by_cases h2 : wlt ⟨yf, yt⟩ ⟨xf, xt⟩
    · have HE : Hid (r = 1) := by rw [Hid, HF.out, if_pos h2]
      rw [decide_eq_true h2]
      clear h2
      go_wp2_with fail
      go_ret
      rw [HE.out]
      exact ⟨rfl, HG3.out⟩
    · have HE : Hid (r = cmpB xb yb) := by rw [Hid, HF.out, if_neg h2]
      rw [decide_eq_false h2]
      clear h2
      have p0 : w3.cell? ⟨pb, 0, none⟩ = some (.string xs) := HP3.out.cell 0
      have q0 : w3.cell? ⟨qb, 0, none⟩ = some (.string ys) := HQ3.out.cell 0
      have hpl := HP3.out.lt
      have hql := HQ3.out.lt
      go_wp2_with fail
      refine (HSC.out w3).mono ?_
      rintro e w4 ⟨rfl, rfl⟩
      go_wp2_with fail
      go_ret
      rw [HE.out]
      exact ⟨rfl, HG3.out⟩

end Go.Proofs.Ytkobaidamdffmaa

namespace Go.Proofs.Ytkobaidamdffmaa
open Go.RowKit
set_option linter.unusedVariables false
set_option linter.unusedSimpArgs false

def q1 (s : RS) : RS := nmS s 4
def q2 (s : RS) : RS := nmS (q1 s) 4
def q3 (s : RS) : RS := byS (q2 s)
def q4 (s : RS) : RS := byS (q3 s)
def q5 (s : RS) : RS := nmS (q4 s) 4
def q6 (s : RS) : RS := nmS (q5 s) 8
def q7 (s : RS) : RS := nmS (q6 s) 8
def q8 (s : RS) : RS := nmS (q7 s) 1
def q9 (s : RS) : RS := fgS (q8 s)
/-- the reader behind a record -/
def q10 (s : RS) : RS := fgS (q9 s)
def dF (s : RS) : Int := nmO s 4 - 4194304
def dT (s : RS) : Int := nmO (q1 s) 4 - 4194304
def dB (s : RS) : List Int := byO (q2 s)
def dC (s : RS) : CD := ⟨byO (q3 s), nmO (q4 s) 4, nmO (q5 s) 8, nmO (q7 s) 1, nmO (q6 s) 8, fgO (q8 s), fgO (q9 s)⟩
/-- the bytes D begin with a cell's, r stands behind them -/
def Rec (D : List Int) (p : PK) (d : CD) (r : List Int) : Prop := D = encP p d ++ r ∧ d.right ∧ Bytes8 d.b
theorem encP_app (p : PK) (d : CD) (r : List Int) : encP p d ++ r = beN (p.f + 4194304) 4 ++ (beN (p.t + 4194304) 4 ++ (beN p.b.length 4 ++ (p.b ++ (beN d.b.length 4 ++ (d.b ++ (beN d.s 4 ++ (beN d.n 8 ++ (beN d.h 8 ++ (beN d.g 1 ++ ((if d.p then 1 else 0) :: (if d.c then 1 else 0) :: r)))))))))) := by
  unfold encP
  rw [beN_one]
  simp only [List.append_assoc, List.cons_append, List.nil_append]
theorem rec_fwd {s : RS} {p : PK} {d : CD} {r : List Int} (hs : s.2 = false) (h : Rec s.1 p d r) : dB s = p.b ∧ dF s = p.f ∧ dT s = p.t ∧ dC s = d ∧ q10 s = (r, false) := by
  obtain ⟨D, b⟩ := s
  obtain ⟨h1, h2, h3⟩ := h
  simp only at hs h1
  subst hs h1
  rw [encP_app]
  have hw : -1048576 ≤ p.f ∧ p.f < p.t ∧ p.t ≤ 2097153 := p.ok.2.2
  obtain ⟨r1, r2, r3, r4, r5, r6, r7⟩ := h2
  have e1 := nm_fwd (p.f + 4194304) 4 (beN (p.t + 4194304) 4 ++ (beN p.b.length 4 ++ (p.b ++ (beN d.b.length 4 ++ (d.b ++ (beN d.s 4 ++ (beN d.n 8 ++ (beN d.h 8 ++ (beN d.g 1 ++ ((if d.p then 1 else 0) :: (if d.c then 1 else 0) :: r)))))))))) (by omega) (by omega)
  have e2 := nm_fwd (p.t + 4194304) 4 (beN p.b.length 4 ++ (p.b ++ (beN d.b.length 4 ++ (d.b ++ (beN d.s 4 ++ (beN d.n 8 ++ (beN d.h 8 ++ (beN d.g 1 ++ ((if d.p then 1 else 0) :: (if d.c then 1 else 0) :: r))))))))) (by omega) (by omega)
  have e3 := by_fwd p.b (beN d.b.length 4 ++ (d.b ++ (beN d.s 4 ++ (beN d.n 8 ++ (beN d.h 8 ++ (beN d.g 1 ++ ((if d.p then 1 else 0) :: (if d.c then 1 else 0) :: r))))))) p.ok.2.1
  have e4 := by_fwd d.b (beN d.s 4 ++ (beN d.n 8 ++ (beN d.h 8 ++ (beN d.g 1 ++ ((if d.p then 1 else 0) :: (if d.c then 1 else 0) :: r))))) r1
  have e5 := nm_fwd d.s 4 (beN d.n 8 ++ (beN d.h 8 ++ (beN d.g 1 ++ ((if d.p then 1 else 0) :: (if d.c then 1 else 0) :: r)))) (by omega) (by omega)
  have e6 := nm_fwd d.n 8 (beN d.h 8 ++ (beN d.g 1 ++ ((if d.p then 1 else 0) :: (if d.c then 1 else 0) :: r))) (by omega) (by omega)
  have e7 := nm_fwd d.h 8 (beN d.g 1 ++ ((if d.p then 1 else 0) :: (if d.c then 1 else 0) :: r)) (by omega) (by omega)
  have e8 := nm_fwd d.g 1 ((if d.p then 1 else 0) :: (if d.c then 1 else 0) :: r) (by omega) (by omega)
  have e9 := fg_fwd d.p ((if d.c then 1 else 0) :: r)
  have e10 := fg_fwd d.c r
  unfold dB dF dT dC q10 q9 q8 q7 q6 q5 q4 q3 q2 q1
  simp only [e1, e2, e3, e4, e5, e6, e7, e8, e9, e10]
  exact ⟨trivial, by omega, by omega, trivial, trivial⟩
set_option maxHeartbeats 2000000 in
theorem rec_inv {s : RS} (h8 : Bytes8 s.1) (h : (q10 s).2 = false) : Bytes8 (dB s) ∧ Bytes8 (dC s).b ∧ Bytes8 (q10 s).1 ∧ (∀ p : PK, p.b = dB s → p.f = dF s → p.t = dT s → (dC s).right → Rec s.1 p (dC s) (q10 s).1) := by
  replace h : (fgS (q9 s)).2 = false := h
  have g1 : ∀ z : RS, Bytes8 z.1 → ∀ c, (nmS z c).2 = false → Bytes8 (nmS z c).1 := fun z hz c hc => (nm_inv hz hc).2.2.2.2
  -- bad is kept
  have b10 : ∀ z : RS, (fgS z).2 = false → (nmS z 1).2 = false := fun z hz => by unfold fgS at hz; simp at hz; exact hz.1
  have bn : ∀ (z : RS) (c : Nat), (nmS z c).2 = false → z.2 = false := fun z c hz => by
    have h0 : nmS z c = tkS z c := by
      unfold nmS at hz ⊢
      split
      · next h9 => rw [if_pos h9] at hz; cases hz
      · rfl
    rw [h0] at hz
    exact (tk_inv hz).1
  have bb : ∀ z : RS, (byS z).2 = false → z.2 = false := fun z hz => by
    unfold byS at hz
    split at hz
    · cases hz
    · exact bn _ _ (tk_inv hz).1
  have h9 : (q9 s).2 = false := bn (q9 s) 1 (b10 (q9 s) h)
  have h8' : (q8 s).2 = false := bn (q8 s) 1 (b10 (q8 s) h9)
  have h7 : (q7 s).2 = false := bn (q7 s) 1 h8'
  have h6 : (q6 s).2 = false := bn (q6 s) 8 h7
  have h5 : (q5 s).2 = false := bn (q5 s) 8 h6
  have h4 : (q4 s).2 = false := bn (q4 s) 4 h5
  have h3 : (q3 s).2 = false := bb (q3 s) h4
  have h2 : (q2 s).2 = false := bb (q2 s) h3
  have h1 : (q1 s).2 = false := bn (q1 s) 4 h2
  obtain ⟨_, a1, l1, u1, k1⟩ := nm_inv (s := s) h8 h1
  obtain ⟨_, a2, l2, u2, k2⟩ := nm_inv (s := q1 s) k1 h2
  obtain ⟨_, a3, l3, o3, k3⟩ := by_inv (s := q2 s) k2 h3
  obtain ⟨_, a4, l4, o4, k4⟩ := by_inv (s := q3 s) k3 h4
  obtain ⟨_, a5, l5, u5, k5⟩ := nm_inv (s := q4 s) k4 h5
  obtain ⟨_, a6, l6, u6, k6⟩ := nm_inv (s := q5 s) k5 h6
  obtain ⟨_, a7, l7, u7, k7⟩ := nm_inv (s := q6 s) k6 h7
  obtain ⟨_, a8, l8, u8, k8⟩ := nm_inv (s := q7 s) k7 h8'
  obtain ⟨_, a9, k9⟩ := fg_inv (s := q8 s) k8 h9
  obtain ⟨_, a10, k10⟩ := fg_inv (s := q9 s) k9 h
  refine ⟨o3, o4, k10, fun p hb hf ht hr => ⟨?_, hr, o4⟩⟩
  rw [encP_app, hb, hf, ht]
  have e1 : dF s + 4194304 = nmO s 4 := by unfold dF; omega
  have e2 : dT s + 4194304 = nmO (q1 s) 4 := by unfold dT; omega
  rw [e1, e2]
  show s.1 = beN (nmO s 4) 4 ++ (beN (nmO (q1 s) 4) 4 ++ (beN (byO (q2 s)).length 4 ++ (byO (q2 s) ++ (beN (byO (q3 s)).length 4 ++ (byO (q3 s) ++ (beN (nmO (q4 s) 4) 4 ++ (beN (nmO (q5 s) 8) 8 ++ (beN (nmO (q6 s) 8) 8 ++ (beN (nmO (q7 s) 1) 1 ++ ((if fgO (q8 s) then 1 else 0) :: (if fgO (q9 s) then 1 else 0) :: (fgS (q9 s)).1))))))))))
  rw [← a10]
  show s.1 = beN (nmO s 4) 4 ++ (beN (nmO (q1 s) 4) 4 ++ (beN (byO (q2 s)).length 4 ++ (byO (q2 s) ++ (beN (byO (q3 s)).length 4 ++ (byO (q3 s) ++ (beN (nmO (q4 s) 4) 4 ++ (beN (nmO (q5 s) 8) 8 ++ (beN (nmO (q6 s) 8) 8 ++ (beN (nmO (q7 s) 1) 1 ++ ((if fgO (q8 s) then 1 else 0) :: (fgS (q8 s)).1))))))))))
  rw [← a9]
  show s.1 = beN (nmO s 4) 4 ++ (beN (nmO (q1 s) 4) 4 ++ (beN (byO (q2 s)).length 4 ++ (byO (q2 s) ++ (beN (byO (q3 s)).length 4 ++ (byO (q3 s) ++ (beN (nmO (q4 s) 4) 4 ++ (beN (nmO (q5 s) 8) 8 ++ (beN (nmO (q6 s) 8) 8 ++ (beN (nmO (q7 s) 1) 1 ++ (nmS (q7 s) 1).1)))))))))
  rw [← a8]
  show s.1 = beN (nmO s 4) 4 ++ (beN (nmO (q1 s) 4) 4 ++ (beN (byO (q2 s)).length 4 ++ (byO (q2 s) ++ (beN (byO (q3 s)).length 4 ++ (byO (q3 s) ++ (beN (nmO (q4 s) 4) 4 ++ (beN (nmO (q5 s) 8) 8 ++ (beN (nmO (q6 s) 8) 8 ++ (nmS (q6 s) 8).1))))))))
  rw [← a7]
  show s.1 = beN (nmO s 4) 4 ++ (beN (nmO (q1 s) 4) 4 ++ (beN (byO (q2 s)).length 4 ++ (byO (q2 s) ++ (beN (byO (q3 s)).length 4 ++ (byO (q3 s) ++ (beN (nmO (q4 s) 4) 4 ++ (beN (nmO (q5 s) 8) 8 ++ (nmS (q5 s) 8).1)))))))
  rw [← a6]
  show s.1 = beN (nmO s 4) 4 ++ (beN (nmO (q1 s) 4) 4 ++ (beN (byO (q2 s)).length 4 ++ (byO (q2 s) ++ (beN (byO (q3 s)).length 4 ++ (byO (q3 s) ++ (beN (nmO (q4 s) 4) 4 ++ (nmS (q4 s) 4).1))))))
  rw [← a5]
  show s.1 = beN (nmO s 4) 4 ++ (beN (nmO (q1 s) 4) 4 ++ (beN (byO (q2 s)).length 4 ++ (byO (q2 s) ++ (beN (byO (q3 s)).length 4 ++ (byO (q3 s) ++ (byS (q3 s)).1)))))
  rw [← a4]
  show s.1 = beN (nmO s 4) 4 ++ (beN (nmO (q1 s) 4) 4 ++ (beN (byO (q2 s)).length 4 ++ (byO (q2 s) ++ (byS (q2 s)).1)))
  rw [← a3]
  show s.1 = beN (nmO s 4) 4 ++ (beN (nmO (q1 s) 4) 4 ++ (nmS (q1 s) 4).1)
  rw [← a2]
  exact a1
theorem Rec.uniq {D r r' : List Int} {p p' : PK} {d d' : CD} (h : Rec D p d r) (k : Rec D p' d' r') : p = p' ∧ d = d' ∧ r = r' := by
  obtain ⟨a1, a2, a3, a4, a5⟩ := rec_fwd (s := (D, false)) rfl h
  obtain ⟨b1, b2, b3, b4, b5⟩ := rec_fwd (s := (D, false)) rfl k
  refine ⟨(PK.eq_iff _ _).2 ⟨a1.symm.trans b1, a2.symm.trans b2, a3.symm.trans b3⟩, a4.symm.trans b4, ?_⟩
  have h9 := a5.symm.trans b5
  injection h9

/-- n records, in order behind q -/
def Dec : Option PK → Nat → List Int → List (PK × CD) → Prop
  | _, 0, D, M => D = [] ∧ M = []
  | q, n + 1, D, M => ∃ p d r M', Rec D p d r ∧ (∀ q', q = some q' → ltP q' p) ∧ M = (p, d) :: M' ∧ Dec (some p) n r M'
theorem Dec.len : ∀ {n : Nat} {q : Option PK} {D : List Int} {M : List (PK × CD)}, Dec q n D M → M.length = n
  | 0, q, D, M, h => by rw [h.2]; rfl
  | n + 1, q, D, M, h => by
    obtain ⟨p, d, r, M', _, _, rfl, h4⟩ := h
    rw [List.length_cons, Dec.len h4]
theorem Dec.uniq : ∀ {n : Nat} {q : Option PK} {D : List Int} {M M' : List (PK × CD)}, Dec q n D M → Dec q n D M' → M = M'
  | 0, q, D, M, M', h, k => h.2.trans k.2.symm
  | n + 1, q, D, M, M', h, k => by
    obtain ⟨p, d, r, N, h1, _, rfl, h4⟩ := h
    obtain ⟨p', d', r', N', k1, _, rfl, k4⟩ := k
    obtain ⟨rfl, rfl, rfl⟩ := h1.uniq k1
    rw [Dec.uniq h4 k4]
/-- the bytes D are those of a table with the cells M -/
def DecT (D : List Int) (M : List (PK × CD)) : Prop := ∃ r, D = beN M.length 4 ++ r ∧ M.length < 4294967296 ∧ Dec none M.length r M
theorem DecT.fwd {D : List Int} {M : List (PK × CD)} (h : DecT D M) : nmO (D, false) 4 = M.length ∧ (nmS (D, false) 4).2 = false ∧ Dec none M.length (nmS (D, false) 4).1 M := by
  obtain ⟨r, rfl, h2, h3⟩ := h
  have h4 := nm_fwd (M.length : Int) 4 r (by omega) (by omega)
  rw [h4.1, h4.2]
  exact ⟨rfl, rfl, h3⟩
theorem DecT.back {D : List Int} {M : List (PK × CD)} {n : Nat} (h8 : Bytes8 D) (hn : nmO (D, false) 4 = n) (hb : (nmS (D, false) 4).2 = false) (h : Dec none n (nmS (D, false) 4).1 M) : DecT D M := by
  obtain ⟨_, h2, h3, h4, _⟩ := nm_inv (s := (D, false)) h8 hb
  have hl := h.len
  subst hl
  rw [hn] at h2 h4
  exact ⟨_, h2, by omega, h⟩
theorem DecT.uniq {D : List Int} {M M' : List (PK × CD)} (h : DecT D M) (k : DecT D M') : M = M' := by
  have h1 := h.fwd
  have k1 := k.fwd
  have hl : M.length = M'.length := by have := h1.1.symm.trans k1.1; omega
  have k2 := k1.2.2
  rw [← hl] at k2
  exact h1.2.2.uniq k2
/-- the bytes of a table with the cells M -/
def encM (M : List (PK × CD)) : List Int := beN M.length 4 ++ M.flatMap fun x => encP x.1 x.2
theorem Dec.enc : ∀ {n : Nat} {q : Option PK} {D : List Int} {M : List (PK × CD)}, Dec q n D M → D = (M.flatMap fun x => encP x.1 x.2) ∧ (∀ x ∈ M, x.2.right ∧ Bytes8 x.2.b) ∧ (M.map (·.1)).Pairwise ltP ∧ (∀ q', q = some q' → ∀ x ∈ M, ltP q' x.1)
  | 0, q, D, M, h => by
    obtain ⟨rfl, rfl⟩ := h
    exact ⟨rfl, (fun x hx => by cases hx), List.Pairwise.nil, (fun _ _ x hx => by cases hx)⟩
  | n + 1, q, D, M, h => by
    obtain ⟨p, d, r, N, h1, h2, rfl, h4⟩ := h
    obtain ⟨k1, k2, k3, k4⟩ := Dec.enc h4
    refine ⟨?_, fun x hx => ?_, ?_, fun q' hq x hx => ?_⟩
    · rw [List.flatMap_cons, ← k1]
      exact h1.1
    · rcases List.mem_cons.1 hx with rfl | hx
      · exact h1.2
      · exact k2 x hx
    · rw [List.map_cons]
      refine List.pairwise_cons.2 ⟨fun y hy => ?_, k3⟩
      obtain ⟨x, hx, rfl⟩ := List.mem_map.1 hy
      exact k4 p rfl x hx
    · rcases List.mem_cons.1 hx with rfl | hx
      · exact h2 q' hq
      · exact ltP_trans (h2 q' hq) (k4 p rfl x hx)
theorem Dec.of : ∀ {M : List (PK × CD)} {q : Option PK}, (∀ x ∈ M, x.2.right ∧ Bytes8 x.2.b) → (M.map (·.1)).Pairwise ltP → (∀ q', q = some q' → ∀ x ∈ M, ltP q' x.1) → Dec q M.length (M.flatMap fun x => encP x.1 x.2) M
  | [], q, _, _, _ => ⟨rfl, rfl⟩
  | (p, d) :: M, q, h1, h2, h3 => by
    rw [List.map_cons, List.pairwise_cons] at h2
    refine ⟨p, d, _, M, ⟨by rw [List.flatMap_cons], h1 _ List.mem_cons_self⟩, fun q' hq => h3 q' hq _ List.mem_cons_self, rfl, ?_⟩
    refine Dec.of (fun x hx => h1 x (List.mem_cons_of_mem _ hx)) h2.2 (fun q' hq x hx => ?_)
    injection hq with hq
    subst hq
    exact h2.1 x.1 (List.mem_map_of_mem hx)
theorem DecT.enc {D : List Int} {M : List (PK × CD)} (h : DecT D M) : D = encM M ∧ (∀ x ∈ M, x.2.right ∧ Bytes8 x.2.b) ∧ (M.map (·.1)).Pairwise ltP := by
  obtain ⟨r, h1, h2, h3⟩ := h
  obtain ⟨k1, k2, k3, _⟩ := h3.enc
  exact ⟨by rw [h1, k1]; rfl, k2, k3⟩
theorem DecT.of {M : List (PK × CD)} (h1 : ∀ x ∈ M, x.2.right ∧ Bytes8 x.2.b) (h2 : (M.map (·.1)).Pairwise ltP) (hn : M.length < 4294967296) : DecT (encM M) M :=
  ⟨_, rfl, hn, Dec.of h1 h2 (fun _ h => by cases h)⟩

/-- one step of the loop -/
theorem Dec.bad {s : RS} {q : Option PK} {n : Nat} {M : List (PK × CD)} (hs : s.2 = false) (h : (q10 s).2 = true) : ¬ Dec q (n + 1) s.1 M := by
  rintro ⟨p, d, r, M', h1, _⟩
  rw [(rec_fwd hs h1).2.2.2.2] at h
  cases h
theorem Dec.wrong {s : RS} {q : Option PK} {n : Nat} {M : List (PK × CD)} (hs : s.2 = false) (h : ¬ (keyR (dB s).length (dF s) (dT s) ∧ (dC s).right)) : ¬ Dec q (n + 1) s.1 M := by
  rintro ⟨p, d, r, M', h1, _⟩
  obtain ⟨a1, a2, a3, a4, a5⟩ := rec_fwd hs h1
  rw [a1, a2, a3, a4] at h
  exact h ⟨⟨p.ok.2.1, p.ok.2.2⟩, h1.2.1⟩
theorem Dec.order {s : RS} {q' : PK} {n : Nat} {M : List (PK × CD)} (hs : s.2 = false) (h : ¬ ordW q'.b (dB s) q'.f q'.t (dF s) (dT s) < 0) : ¬ Dec (some q') (n + 1) s.1 M := by
  rintro ⟨p, d, r, M', h1, h2, _⟩
  obtain ⟨a1, a2, a3, a4, a5⟩ := rec_fwd hs h1
  rw [a1, a2, a3, ordW_eq] at h
  exact h ((ordP_neg _ _).2 (h2 q' rfl))
theorem Dec.next {s : RS} {q : Option PK} {p : PK} {n : Nat} {M : List (PK × CD)} (hs : s.2 = false) (h8 : Bytes8 s.1) (h : (q10 s).2 = false) (hb : p.b = dB s) (hf : p.f = dF s) (ht : p.t = dT s) (hr : (dC s).right)
    (ho : ∀ q', q = some q' → ordW q'.b (dB s) q'.f q'.t (dF s) (dT s) < 0) : Dec q (n + 1) s.1 M ↔ ∃ M', M = (p, dC s) :: M' ∧ Dec (some p) n (q10 s).1 M' := by
  have h1 := (rec_inv h8 h).2.2.2 p hb hf ht hr
  constructor
  · rintro ⟨p', d', r', M', k1, k2, k3, k4⟩
    obtain ⟨rfl, rfl, rfl⟩ := h1.uniq k1
    exact ⟨M', k3, k4⟩
  · rintro ⟨M', k3, k4⟩
    refine ⟨p, _, _, M', h1, fun q' hq => ?_, k3, k4⟩
    have h9 := ho q' hq
    rw [← hb, ← hf, ← ht, ordW_eq] at h9
    exact (ordP_neg _ _).1 h9
end Go.Proofs.Ytkobaidamdffmaa

namespace Go.Proofs.Ytkobaidamdffmaa
open Go.RowKit
set_option linter.unusedVariables false
set_option linter.unusedSimpArgs false

def szL (k : Nat) : Nat := if k < 5 then 4 else if k < 7 then 8 else 1
/-- a field: its number, the bytes that hang on it, what stands behind -/
def rfld (k : Nat) (E : List Int) : Option (Int × List Int × List Int) :=
  match ngR E (szL k) with
  | none => none
  | some x => if k = 2 ∨ k = 3 then (if 1048576 < x ∨ ((E.drop (szL k)).length : Int) < x then none else some (x, (E.drop (szL k)).take x.toNat, (E.drop (szL k)).drop x.toNat)) else some (x, [], E.drop (szL k))
structure RV where
  vs : List Int
  kb : List Int
  ab : List Int
  r : List Int
/-- the first k fields -/
def rcd : Nat → List Int → Option RV
  | 0, E => some ⟨[], [], [], E⟩
  | k + 1, E => match rcd k E with
    | none => none
    | some y => match rfld k y.r with
      | none => none
      | some (x, pt, r) => some ⟨y.vs ++ [x], if k = 2 then pt else y.kb, if k = 3 then pt else y.ab, r⟩
theorem rcd_none {k : Nat} {E : List Int} (h : rcd k E = none) : ∀ j, rcd (k + j) E = none
  | 0 => h
  | j + 1 => by
    show rcd ((k + j) + 1) E = none
    rw [rcd, rcd_none h j]
theorem rcd_some {k : Nat} {E : List Int} {y : RV} (h : rcd k E = some y) : rcd (k + 1) E = match rfld k y.r with
      | none => none
      | some (x, pt, r) => some ⟨y.vs ++ [x], if k = 2 then pt else y.kb, if k = 3 then pt else y.ab, r⟩ := by rw [rcd, h]
theorem rcd_vs : ∀ {k : Nat} {E : List Int} {y : RV}, rcd k E = some y → y.vs.length = k
  | 0, E, y, h => by injection h with h; rw [← h]; rfl
  | k + 1, E, y, h => by
    rw [rcd] at h
    split at h
    · cases h
    · next z hz =>
      split at h
      · cases h
      · injection h with h
        rw [← h, List.length_append, rcd_vs hz]
        rfl
theorem ng_inv {E : List Int} {c : Nat} {x : Int} (h8 : Bytes8 E) (h : ngR E c = some x) : c ≤ E.length ∧ E = beN x c ++ E.drop c ∧ 0 ≤ x ∧ x < 256 ^ c := by
  unfold ngR at h
  split at h
  · cases h
  · next h1 =>
    have hl : (E.take c).length = c := by rw [List.length_take]; omega
    have h2 := numL_back _ _ 0 x (h8.take c) (Int.le_refl _) h
    have h3 := numL_lt _ _ x (h8.take c) h
    rw [hl] at h2 h3
    refine ⟨by omega, ?_, numL_pos _ _ 0 x (h8.take c) (Int.le_refl _) h, h3⟩
    rw [h2.2, List.take_append_drop]
theorem ng_fwd {x : Int} {c : Nat} (R : List Int) (h0 : 0 ≤ x ∧ x < 1125899906842625) (hc : x < 256 ^ c) : ngR (beN x c ++ R) c = some x ∧ (beN x c ++ R).drop c = R := by
  have hl := beN_len x c
  unfold ngR
  rw [List.length_append, hl, if_neg (by omega)]
  have h1 : (beN x c ++ R).take c = beN x c := by rw [List.take_append_of_le_length (by omega), List.take_of_length_le (by omega)]
  refine ⟨by rw [h1]; exact numL_zero _ x c h0.2 h0.1 hc, ?_⟩
  rw [List.drop_append, List.drop_of_length_le (by omega), hl, Nat.sub_self]
  rfl
/-- what hangs on a field's number -/
def ptOk (k : Nat) (x : Int) (pt : List Int) : Prop := if k = 2 ∨ k = 3 then x = pt.length ∧ pt.length ≤ 1048576 else pt = []
theorem rfld_inv {k : Nat} {E : List Int} {x : Int} {pt r : List Int} (h8 : Bytes8 E) (h : rfld k E = some (x, pt, r)) : E = beN x (szL k) ++ (pt ++ r) ∧ 0 ≤ x ∧ x < 256 ^ szL k ∧ ptOk k x pt ∧ Bytes8 pt ∧ Bytes8 r := by
  unfold rfld at h
  split at h
  · cases h
  · next z hz =>
    obtain ⟨h1, h2, h3, h4⟩ := ng_inv h8 hz
    have h5 := h8.drop (szL k)
    split at h
    · next hk =>
      split at h
      · cases h
      · next hb =>
        injection h with h
        injection h with e1 h
        injection h with e2 e3
        subst e1 e2 e3
        have hl : (List.take z.toNat (List.drop (szL k) E)).length = z.toNat := by rw [List.length_take]; omega
        refine ⟨by rw [List.take_append_drop]; exact h2, h3, h4, ?_, h5.take _, h5.drop _⟩
        unfold ptOk
        rw [if_pos hk, hl]
        omega
    · next hk =>
      injection h with h
      injection h with e1 h
      injection h with e2 e3
      subst e1 e2 e3
      refine ⟨by rw [List.nil_append]; exact h2, h3, h4, ?_, (fun c hc => by cases hc), h5⟩
      unfold ptOk
      rw [if_neg hk]
theorem rfld_fwd {k : Nat} {x : Int} {pt r : List Int} (h0 : 0 ≤ x ∧ x < 1125899906842625) (hc : x < 256 ^ szL k) (hp : ptOk k x pt) : rfld k (beN x (szL k) ++ (pt ++ r)) = some (x, pt, r) := by
  obtain ⟨h1, h2⟩ := ng_fwd (pt ++ r) h0 hc
  unfold rfld
  rw [h1]
  simp only
  rw [h2]
  unfold ptOk at hp
  by_cases hk : k = 2 ∨ k = 3
  · rw [if_pos hk] at hp ⊢
    obtain ⟨rfl, hp⟩ := hp
    rw [if_neg (by rw [List.length_append]; omega), Int.toNat_natCast, List.take_left, List.drop_left]
  · rw [if_neg hk] at hp ⊢
    subst hp
    rfl
theorem rcd_back {k : Nat} {E : List Int} {y : RV} (h : rcd (k + 1) E = some y) : ∃ z x pt r, rcd k E = some z ∧ rfld k z.r = some (x, pt, r) ∧ y = ⟨z.vs ++ [x], if k = 2 then pt else z.kb, if k = 3 then pt else z.ab, r⟩ := by
  rw [rcd] at h
  split at h
  · cases h
  · next z hz =>
    split at h
    · cases h
    · next x pt r hr =>
      injection h with h
      exact ⟨z, x, pt, r, hz, hr, h.symm⟩
theorem rcd_fwd {k : Nat} {E : List Int} {z : RV} {x : Int} {pt r : List Int} (hz : rcd k E = some z) (hr : rfld k z.r = some (x, pt, r)) : rcd (k + 1) E = some ⟨z.vs ++ [x], if k = 2 then pt else z.kb, if k = 3 then pt else z.ab, r⟩ := by
  rw [rcd, hz]
  simp only
  rw [hr]
def bit1 (b : Bool) : Int := if b then 1 else 0
set_option maxHeartbeats 1000000 in
theorem rec_rcd {E : List Int} {p : PK} {d : CD} {r : List Int} (h : Rec E p d r) : rcd 10 E = some ⟨[p.f + 4194304, p.t + 4194304, p.b.length, d.b.length, d.s, d.n, d.h, d.g, bit1 d.p, bit1 d.c], p.b, d.b, r⟩ := by
  obtain ⟨rfl, h2, h3⟩ := h
  have hw : -1048576 ≤ p.f ∧ p.f < p.t ∧ p.t ≤ 2097153 := p.ok.2.2
  have hkl := p.ok.2.1
  obtain ⟨r1, r2, r3, r4, r5, r6, r7⟩ := h2
  have e : encP p d ++ r = beN (p.f + 4194304) (szL 0) ++ ([] ++ (beN (p.t + 4194304) (szL 1) ++ ([] ++ (beN p.b.length (szL 2) ++ (p.b ++ (beN d.b.length (szL 3) ++ (d.b ++ (beN d.s (szL 4) ++ ([] ++ (beN d.n (szL 5) ++ ([] ++ (beN d.h (szL 6) ++ ([] ++ (beN d.g (szL 7) ++ ([] ++ (beN (bit1 d.p) (szL 8) ++ ([] ++ (beN (bit1 d.c) (szL 9) ++ ([] ++ r))))))))))))))))))) := by
    rw [encP_app]
    have e8 : beN (bit1 d.p) (szL 8) = [if d.p then 1 else 0] := by cases d.p <;> rfl
    have e9 : beN (bit1 d.c) (szL 9) = [if d.c then 1 else 0] := by cases d.c <;> rfl
    rw [e8, e9]
    rfl
  rw [e]
  have b1 : ∀ b, 0 ≤ bit1 b ∧ bit1 b ≤ 1 := fun b => by unfold bit1; split <;> omega
  have n0 : ∀ (k : Nat) (x : Int), ¬ (k = 2 ∨ k = 3) → ptOk k x [] := fun k x hk => by unfold ptOk; rw [if_neg hk]
  have b8 := b1 d.p
  have b9 := b1 d.c
  refine (rcd_fwd (rcd_fwd (rcd_fwd (rcd_fwd (rcd_fwd (rcd_fwd (rcd_fwd (rcd_fwd (rcd_fwd (rcd_fwd (z := ⟨[], [], [], _⟩) rfl
    (rfld_fwd (by omega) (by simp [szL]; omega) (n0 0 _ (by omega))))
    (rfld_fwd (by omega) (by simp [szL]; omega) (n0 1 _ (by omega))))
    (rfld_fwd (by omega) (by simp [szL]; omega) ?_))
    (rfld_fwd (by omega) (by simp [szL]; omega) ?_))
    (rfld_fwd (by omega) (by simp [szL]; omega) (n0 4 _ (by omega))))
    (rfld_fwd (by omega) (by simp [szL]; omega) (n0 5 _ (by omega))))
    (rfld_fwd (by omega) (by simp [szL]; omega) (n0 6 _ (by omega))))
    (rfld_fwd (by omega) (by simp [szL]; omega) (n0 7 _ (by omega))))
    (rfld_fwd (by omega) (by simp [szL]; omega) (n0 8 _ (by omega))))
    (rfld_fwd (by omega) (by simp [szL]; omega) (n0 9 _ (by omega)))).trans rfl
  · unfold ptOk; rw [if_pos (.inl rfl)]; exact ⟨rfl, hkl⟩
  · unfold ptOk; rw [if_pos (.inr rfl)]; exact ⟨rfl, r1⟩
/-- the fields' bytes -/
def encV (v0 v1 v4 v5 v6 v7 v8 v9 : Int) (kb ab r : List Int) : List Int := beN v0 4 ++ (beN v1 4 ++ (beN kb.length 4 ++ (kb ++ (beN ab.length 4 ++ (ab ++ (beN v4 4 ++ (beN v5 8 ++ (beN v6 8 ++ (beN v7 1 ++ (beN v8 1 ++ (beN v9 1 ++ r)))))))))))
theorem encV_rec {v0 v1 v4 v5 v6 v7 v8 v9 : Int} {kb ab r : List Int} (l8 : 0 ≤ v8 ∧ v8 ≤ 1) (l9 : 0 ≤ v9 ∧ v9 ≤ 1) {p : PK} (hb : p.b = kb) (hf : p.f = v0 - 4194304) (ht : p.t = v1 - 4194304) (h8 : Bytes8 ab) (hr : (⟨ab, v4, v5, v7, v6, decide (v8 = 1), decide (v9 = 1)⟩ : CD).right) :
    Rec (encV v0 v1 v4 v5 v6 v7 v8 v9 kb ab r) p ⟨ab, v4, v5, v7, v6, decide (v8 = 1), decide (v9 = 1)⟩ r := by
  refine ⟨?_, hr, h8⟩
  have e0 : p.f + 4194304 = v0 := by omega
  have e1 : p.t + 4194304 = v1 := by omega
  have e8 : (if decide (v8 = 1) = true then (1 : Int) else 0) = v8 % 256 := by by_cases hx : v8 = 1 <;> simp [hx] <;> omega
  have e9 : (if decide (v9 = 1) = true then (1 : Int) else 0) = v9 % 256 := by by_cases hx : v9 = 1 <;> simp [hx] <;> omega
  rw [encP_app, e0, e1, hb]
  simp only [e8, e9]
  unfold encV
  rw [beN_one v8, beN_one v9]
  simp only [List.cons_append, List.nil_append]
set_option maxHeartbeats 1000000 in
theorem rcd_inv {E : List Int} {y : RV} (h8 : Bytes8 E) (h : rcd 10 E = some y) : ∃ v0 v1 v2 v3 v4 v5 v6 v7 v8 v9, y.vs = [v0, v1, v2, v3, v4, v5, v6, v7, v8, v9] ∧ Bytes8 y.kb ∧ Bytes8 y.ab ∧ Bytes8 y.r ∧
    (0 ≤ v0 ∧ v0 < 256 ^ szL 0) ∧ (0 ≤ v1 ∧ v1 < 256 ^ szL 1) ∧ (0 ≤ v8 ∧ 0 ≤ v9) ∧ E = encV v0 v1 v4 v5 v6 v7 v8 v9 y.kb y.ab y.r := by
  obtain ⟨z9, x9, t9, r9, h9, f9, rfl⟩ := rcd_back h
  obtain ⟨z8, x8, t8, r8, h8', f8, rfl⟩ := rcd_back h9
  obtain ⟨z7, x7, t7, r7, h7, f7, rfl⟩ := rcd_back h8'
  obtain ⟨z6, x6, t6, r6, h6, f6, rfl⟩ := rcd_back h7
  obtain ⟨z5, x5, t5, r5, h5, f5, rfl⟩ := rcd_back h6
  obtain ⟨z4, x4, t4, r4, h4, f4, rfl⟩ := rcd_back h5
  obtain ⟨z3, x3, t3, r3, h3, f3, rfl⟩ := rcd_back h4
  obtain ⟨z2, x2, t2, r2, h2, f2, rfl⟩ := rcd_back h3
  obtain ⟨z1, x1, t1, r1, h1, f1, rfl⟩ := rcd_back h2
  obtain ⟨z0, x0, t0, r0, h0, f0, rfl⟩ := rcd_back h1
  have e0 : (⟨[], [], [], E⟩ : RV) = z0 := Option.some.inj h0
  subst e0
  simp only at f0 f1 f2 f3 f4 f5 f6 f7 f8 f9
  have i0 := rfld_inv h8 f0
  have a0 := i0.1
  have l0 := i0.2.1
  have u0 := i0.2.2.1
  have p0 := i0.2.2.2.1
  have k0 := i0.2.2.2.2.2
  clear i0
  have i1 := rfld_inv k0 f1
  have a1 := i1.1
  have l1 := i1.2.1
  have u1 := i1.2.2.1
  have p1 := i1.2.2.2.1
  have k1 := i1.2.2.2.2.2
  clear i1
  have i2 := rfld_inv k1 f2
  have a2 := i2.1
  have l2 := i2.2.1
  have u2 := i2.2.2.1
  have p2 := i2.2.2.2.1
  have b2 := i2.2.2.2.2.1
  have k2 := i2.2.2.2.2.2
  clear i2
  have i3 := rfld_inv k2 f3
  have a3 := i3.1
  have l3 := i3.2.1
  have u3 := i3.2.2.1
  have p3 := i3.2.2.2.1
  have b3 := i3.2.2.2.2.1
  have k3 := i3.2.2.2.2.2
  clear i3
  have i4 := rfld_inv k3 f4
  have a4 := i4.1
  have l4 := i4.2.1
  have u4 := i4.2.2.1
  have p4 := i4.2.2.2.1
  have k4 := i4.2.2.2.2.2
  clear i4
  have i5 := rfld_inv k4 f5
  have a5 := i5.1
  have l5 := i5.2.1
  have u5 := i5.2.2.1
  have p5 := i5.2.2.2.1
  have k5 := i5.2.2.2.2.2
  clear i5
  have i6 := rfld_inv k5 f6
  have a6 := i6.1
  have l6 := i6.2.1
  have u6 := i6.2.2.1
  have p6 := i6.2.2.2.1
  have k6 := i6.2.2.2.2.2
  clear i6
  have i7 := rfld_inv k6 f7
  have a7 := i7.1
  have l7 := i7.2.1
  have u7 := i7.2.2.1
  have p7 := i7.2.2.2.1
  have k7 := i7.2.2.2.2.2
  clear i7
  have i8 := rfld_inv k7 f8
  have a8 := i8.1
  have l8 := i8.2.1
  have u8 := i8.2.2.1
  have p8 := i8.2.2.2.1
  have k8 := i8.2.2.2.2.2
  clear i8
  have i9 := rfld_inv k8 f9
  have a9 := i9.1
  have l9 := i9.2.1
  have u9 := i9.2.2.1
  have p9 := i9.2.2.2.1
  have k9 := i9.2.2.2.2.2
  clear i9
  have q0 : t0 = [] := by unfold ptOk at p0; simpa using p0
  have q1' : t1 = [] := by unfold ptOk at p1; simpa using p1
  have q2' : x2 = t2.length ∧ t2.length ≤ 1048576 := by unfold ptOk at p2; simpa using p2
  have q3' : x3 = t3.length ∧ t3.length ≤ 1048576 := by unfold ptOk at p3; simpa using p3
  have q4' : t4 = [] := by unfold ptOk at p4; simpa using p4
  have q5' : t5 = [] := by unfold ptOk at p5; simpa using p5
  have q6' : t6 = [] := by unfold ptOk at p6; simpa using p6
  have q7' : t7 = [] := by unfold ptOk at p7; simpa using p7
  have q8' : t8 = [] := by unfold ptOk at p8; simpa using p8
  have q9' : t9 = [] := by unfold ptOk at p9; simpa using p9
  subst q0 q1' q4' q5' q6' q7' q8' q9'
  obtain ⟨q2a, q2b⟩ := q2'
  obtain ⟨q3a, q3b⟩ := q3'
  subst q2a q3a
  clear f0 f1 f2 f3 f4 f5 f6 f7 f8 f9 h h9 h8' h7 h6 h5 h4 h3 h2 h1 p0 p1 p2 p3 p4 p5 p6 p7 p8 p9
  clear u2 u3 u4 u5 u6 u7 u8 u9
  have hE : E = encV x0 x1 x4 x5 x6 x7 x8 x9 t2 t3 r9 := by
    have s0 : szL 0 = 4 := rfl
    have s1 : szL 1 = 4 := rfl
    have s2 : szL 2 = 4 := rfl
    have s3 : szL 3 = 4 := rfl
    have s4 : szL 4 = 4 := rfl
    have s5 : szL 5 = 8 := rfl
    have s6 : szL 6 = 8 := rfl
    have s7 : szL 7 = 1 := rfl
    have s8 : szL 8 = 1 := rfl
    have s9 : szL 9 = 1 := rfl
    rw [a0, a1, a2, a3, a4, a5, a6, a7, a8, a9]
    simp only [s0, s1, s2, s3, s4, s5, s6, s7, s8, s9, List.nil_append]
    rfl
  exact ⟨x0, x1, _, _, x4, x5, x6, x7, x8, x9, rfl, b2, b3, k9, ⟨l0, u0⟩, ⟨l1, u1⟩, ⟨l8, l9⟩, hE⟩
end Go.Proofs.Ytkobaidamdffmaa
