/- JournalPlays: the records that were appended are turned behind it; both tapes behind a crash. -/
import Derived.Test.YtlllocfcljgacaaLaw18f
import Derived.Test.YtlllocfcljgacaaLaw18d
namespace Go.Proofs.Ytlllocfcljgacaa
open Go.RowKit
set_option linter.unusedVariables false
set_option linter.unusedSimpArgs false

/-- n bytes of the call's own, whatever they are -/
def Bs (w : World) (base : Nat) (v : Value) (n : Nat) : Prop := ∃ X : List Int, X.length = n ∧ Own w base bT 1 v n (bys X)
theorem Bs.set {w : World} {base n n' k c : Nat} {ad : Addr} {v : Value} (h : Bs w base (.slice (some ad) n c) n) (h' : Bs w base v n') (hk : k < n) (y : Int) : Bs (w.setCell (ad.add k) (.int .u8 y)) base v n' := by
  obtain ⟨X, hX, ho⟩ := h
  obtain ⟨X', hX', ho'⟩ := h'
  rcases ho.2 with ⟨h1, _⟩ | ⟨g, cap, cur, h1, h2, h3, h4, h5, h6, h7⟩
  · cases h1
  · injection h1 with h1 _ h8
    injection h1 with h1
    subst h1
    subst h8
    have hadd : (⟨g, 0, none⟩ : Addr).add k = ⟨g, k, none⟩ := by
      unfold Addr.add
      split <;> simp_all
    rw [hadd]
    by_cases hg : v.ownBlock = some g
    · rcases ho'.2 with ⟨rfl, _⟩ | ⟨g', cap', cur', rfl, i2, i3, i4, i5, i6, i7⟩
      · cases hg
      · obtain rfl : g' = g := by simpa [Value.ownBlock] using hg
        obtain rfl : cur' = cur := by
          rw [h3] at i3
          injection i3 with i3
          injection i3 with i3 _
          exact i3.symm
        refine ⟨X'.set k y, by rw [List.length_set]; exact hX', ?_⟩
        rw [bys_set]
        refine ⟨by rw [List.length_set]; exact ho'.1, .inr ⟨g', cap', cur'.setIfInBounds k (.int .u8 y), rfl, i2, Blk.put (t := bT) i3 k _, i4, i5, by simpa using i6, ?_⟩⟩
        rw [← i7, Array.toList_setIfInBounds, List.take_set]
    · exact ⟨X', hX', ho'.put hg _⟩
theorem Bs.at {w : World} {base n c k : Nat} {A : Option Addr} (h : Bs w base (.slice A n c) n) (hk : k < n) : ∃ ad y, A = some ad ∧ w.cell? (ad.add k) = some (.int .u8 y) ∧ w.frozen? (ad.add k) = false ∧ (ad.add k).block < w.heap.size ∧ base ≤ (ad.add k).block := by
  obtain ⟨X, hX, ho⟩ := h
  rcases ho.2 with ⟨h1, h9⟩ | ⟨g, cap, cur, h1, h2, h3, h4, h5, h6, h7⟩
  · omega
  · injection h1 with h1 _ h8
    subst h1
    subst h8
    have hadd : (⟨g, 0, none⟩ : Addr).add k = ⟨g, k, none⟩ := by
      unfold Addr.add
      split <;> simp_all
    have hc : (bys X)[k]? = some (.int .u8 (X[k]'(by omega))) := by rw [bys_map, List.getElem?_map, List.getElem?_eq_getElem (by omega)]; rfl
    refine ⟨_, _, rfl, ho.cells (g := g) rfl k _ hc, ?_, ?_, ?_⟩
    · rw [hadd]; exact Blk.frozen (t := bT) h3 k
    · rw [hadd]; exact Blk.lt (t := bT) h3
    · rw [hadd]; exact h2
theorem Bs.form {w : World} {base n : Nat} {v : Value} (h : Bs w base v n) : ∃ A c, v = .slice A n c ∧ n ≤ c := by
  obtain ⟨X, _, ho⟩ := h
  exact ho.sl.form

/-- both tapes, and beside them the records u of the call's own whose bytes are turned -/
structure Inc (w : World) (base bj bx : Nat) (bv ev rv : Value) (R : List Rec) (s : Nat) (c : Int) (z0 : Nat) (u : Value) (Q : List Rec) : Prop where
  st : St w base bj bx bv ev rv R s c
  row : Own w z0 sT 1 u Q.length (recs Q)
  byt : ∀ r ∈ Q, Bs w z0 r.1 r.2.length
  sb : ∀ r ∈ Q, ∀ g, r.1.ownBlock = some g → bv.ownBlock ≠ some g
  sr : ∀ r ∈ Q, ∀ g, r.1.ownBlock = some g → ∀ r' ∈ R, r'.1.ownBlock ≠ some g
section
variable {w w' : World} {base bj bx z0 : Nat} {bv ev rv u : Value} {R Q : List Rec} {s : Nat} {c sf : Int} {X E : List Int}
theorem Inc.set (h : Inc w base bj bx bv ev rv R s c z0 u Q) {ad : Addr} {n k cc : Nat} {d : List Int} (hr : (.slice (some ad) n cc, d) ∈ Q) (hd : d.length = n) (hk : k < n) (y : Int) :
    Inc (w.setCell (ad.add k) (.int .u8 y)) base bj bx bv ev rv R s c z0 u Q := by
  have hb := h.byt _ hr
  simp only at hb
  rw [hd] at hb
  obtain ⟨X, hX, ho⟩ := id hb
  have hg0 : ∃ g cs, ad = ⟨g, 0, none⟩ ∧ Blk w g bT cs := by
    rcases ho.2 with ⟨h1, _⟩ | ⟨g, cap, cur, h1, h2, h3, _⟩
    · cases h1
    · injection h1 with h1 _ _
      injection h1 with h1
      exact ⟨g, cur, h1, h3⟩
  obtain ⟨g, cs, rfl, hg⟩ := hg0
  have hfr : Fr (fun k => k = g) w (w.setCell ((⟨g, 0, none⟩ : Addr).add k) (.int .u8 y)) := (Fr.refl _ w).put (.inl (by rw [add_blk])) _
  refine ⟨h.st.frI hfr (by rintro k rfl; exact ⟨cs, hg⟩) (by rintro k rfl; exact h.sb _ hr _ rfl) (by rintro k rfl; exact h.sr _ hr _ rfl), ?_, fun r hr' => hb.set (h.byt r hr') hk y, h.sb, h.sr⟩
  exact h.row.fr hfr (by rintro k hk' rfl; exact h.row.ne hg (by decide) hk')
theorem Inc.below (h : Inc w base bj bx bv ev rv R s c z0 u Q) (hb : Below w.heap.size w w') : Inc w' base bj bx bv ev rv R s c z0 u Q :=
  ⟨h.st.below hb, h.row.below hb, fun r hr => by obtain ⟨X, h1, h2⟩ := h.byt r hr; exact ⟨X, h1, h2.below hb⟩, h.sb, h.sr⟩

/-- behind both Appends: the records in (Q1, made in w0 .. w1), the reference's own (Q3) -/
theorem St.inc {w0 w1 w2 w3 w4 : World} {bv' ev' rv' u1 u3 : Value} {Q1 Q3 : List Rec} (h : St w0 base bj bx bv ev rv R s c)
    (h1 : OwnRecs w1 w0.heap.size u1 Q1) (hb1 : Below w0.heap.size w0 w1)
    (hj : JR w2 base bj bv' ev' c (framesL (R.map (·.2)) ++ frames Q1) (endsL 0 (R.map (·.2)) ++ endsB (framesL (R.map (·.2))).length Q1) (framesL ((R.map (·.2)).take s)).length)
    (hf2 : Fr (WJ bj bv ev) w1 w2) (hat : bv'.ownBlock = bv.ownBlock ∨ ∃ g, bv'.ownBlock = some g ∧ w1.heap.size ≤ g)
    (h3 : OwnRecs w3 w2.heap.size u3 Q3) (hb3 : Below w2.heap.size w2 w3) (he : Q3.map (·.2) = Q1.map (·.2))
    (hx : RT w4 base bx rv' (R ++ Q3) s c) (hf4 : Fr (fun k => k = bx ∨ rv.ownBlock = some k) w3 w4) (hqf : Fit (Q1.map (·.2))) (hq8 : ∀ r ∈ Q3, Bytes8 r.2) :
    Inc w4 base bj bx bv' ev' rv' (R ++ Q3) s c w0.heap.size u1 Q1 := by
  have hz1 := hb1.size
  have hz2 := hf2.size
  have hz3 := hb3.size
  have hx1 := (h.below hb1).hx.frJ (h.below hb1).hj h.sep hf2
  have hx3 := hx1.below hb3
  have hj4 := (hj.below hb3).frX hx3 hf4
  have hbvlt : ∀ g, bv.ownBlock = some g → g < w0.heap.size := fun g hg => (h.hj.2.1.lt g hg).2
  have hevlt : ∀ g, ev.ownBlock = some g → g < w0.heap.size := fun g hg => (h.hj.2.2.lt g hg).2
  have hrvlt : ∀ g, rv.ownBlock = some g → g < w0.heap.size := fun g hg => (h.hx.2.1.lt g hg).2
  have hbj := h.hj.1.lt
  have hbx := h.hx.1.lt
  have hq1 : OwnRecs w4 w0.heap.size u1 Q1 := by
    refine (((h1.fr hf2 ?_).below hb3)).fr hf4 ?_
    · rintro g hg (rfl | h9 | h9)
      · omega
      · have := hbvlt g h9; omega
      · have := hevlt g h9; omega
    · rintro g hg (rfl | h9)
      · omega
      · have := hrvlt g h9; omega
  have hst : St w4 base bj bx bv' ev' rv' (R ++ Q3) s c := by
    refine (h.below hb1).app (w := w1) (ev := ev) (rv := rv) hat ?_ hx ?_ (by rw [he]; exact hqf) hq8
    · rw [framesL_app, he, endsL_app, Nat.zero_add, ← endsB_eq Q1]
      have h9 : frames Q1 = framesL (Q1.map (·.2)) := frames_map Q1
      rw [← h9]
      exact hj4
    · intro r hr g hg h9
      have h10 := (h3.2 r hr).lt g hg
      rcases hat with h11 | ⟨g', h11, h12⟩
      · rw [h11] at h9
        have := hbvlt g h9
        omega
      · have := (hj.2.1.lt g h9).2
        omega
  refine ⟨hst, hq1.1, fun r hr => ⟨r.2, rfl, hq1.2 r hr⟩, fun r hr g hg h9 => ?_, fun r hr g hg r' hr' h9 => ?_⟩
  · have h10 := (h1.2 r hr).lt g hg
    rcases hat with h11 | ⟨g', h11, h12⟩
    · rw [h11] at h9
      have := hbvlt g h9
      omega
    · rw [h11] at h9
      injection h9 with h9
      omega
  · have h10 := (h1.2 r hr).lt g hg
    rcases List.mem_append.1 hr' with h11 | h11
    · have := (h.hx.2.2 r' h11).lt g h9
      omega
    · have := (h3.2 r' h11).lt g h9
      omega
/-- both behind a crash -/
theorem St.crash {w1 w2 : World} {bv' ev' rv' : Value} {R' : List Rec} {t : Nat} (h : St w base bj bx bv ev rv R s c)
    (hj : JR w1 base bj bv' ev' c (framesL ((R.map (·.2)).take t)) (endsL 0 ((R.map (·.2)).take t)) (framesL ((R.map (·.2)).take t)).length) (hf1 : Fr (fun k => k = bj) w w1) (hbv : bv'.ownBlock = bv.ownBlock)
    (hx : Blk w2 bx xT #[rv', .int .i64 R'.length, .int .i64 c]) (ho : OwnRecs w2 w1.heap.size rv' R') (he : R'.map (·.2) = (R.map (·.2)).take t) (hf2 : Fr (fun k => k = bx) w1 w2) (hb : base ≤ w.heap.size) :
    St w2 base bj bx bv' ev' rv' R' R'.length c := by
  have hz1 := hf1.size
  have hx1 := h.hx.frJ h.hj h.sep (hf1.mono (fun k _ hk => .inl hk) : Fr (WJ bj bv ev) w w1)
  have hj2 := hj.frX hx1 (hf2.mono (fun k _ hk => .inl hk) : Fr (fun k => k = bx ∨ rv.ownBlock = some k) w1 w2)
  rw [← he] at hj2
  refine St.all hj2 ⟨hx, ho.1.lower (by omega), fun r hr => (ho.2 r hr).lower (by omega)⟩ ?_ ?_ ?_ h.b1 h.b2
  · intro r hr g hg h9
    have h10 := (ho.2 r hr).lt g hg
    rw [hbv] at h9
    have := (h.hj.2.1.lt g h9).2
    omega
  · intro r hr
    rw [he] at hr
    exact h.fit r (List.mem_of_mem_take hr)
  · intro r hr
    have h9 : r.2 ∈ (R.map (·.2)).take t := by rw [← he]; exact List.mem_map_of_mem hr
    obtain ⟨q, hq, h10⟩ := List.mem_map.1 (List.mem_of_mem_take h9)
    rw [← h10]
    exact h.by8 q hq
end

/-- the program's Append, whatever comes of it -/
def APost (w w' : World) (base bj : Nat) (bv ev : Value) (c sf : Int) (X E : List Int) (Q : List Rec) (z : Int) (bv' ev' : Value) : Prop :=
  Fr (WJ bj bv ev) w w' ∧ ((((X.length : Int) + (frames Q).length ≤ c) ∧ z = 0 ∧ JR w' base bj bv' ev' c (X ++ frames Q) (E ++ endsB X.length Q) sf ∧ (bv'.ownBlock = bv.ownBlock ∨ ∃ g, bv'.ownBlock = some g ∧ w.heap.size ≤ g)) ∨
    (c < (X.length : Int) + (frames Q).length ∧ z = 181 ∧ Below w.heap.size w w' ∧ bv' = bv ∧ ev' = ev))
theorem append_either (w : World) (base b : Nat) (bv ev : Value) (c sf : Int) (X E : List Int) (v : Value) (R : List Rec) (B : Nat) (h : JR w base b bv ev c X E sf) (hs : Recs w B v R) (hB : B ≤ w.heap.size) (hn : R.length ≤ 65536)
    (hl : ∀ r ∈ R, r.2.length ≤ 1048576 ∧ Bytes8 r.2) (hX : X.length ≤ 1073741824) (hc2 : c ≤ 1073741824) (hbase : base ≤ w.heap.size) (hE : E.length ≤ 1073741824) (hfr : (frames R).length ≤ 1073741824) :
    Calls Try.prog 10 #[.pointer (some ⟨b, 0, none⟩), v] w fun e w' => ∃ z bv' ev', e = .returned (.int .i64 z) ∧ APost w w' base b bv ev c sf X E R z bv' ev' := by
  by_cases hf : (X.length : Int) + (frames R).length ≤ c
  · refine (append_fits w base b bv ev c sf X E v R B h hs hB hn hl hX hf hc2 hbase hE hfr).mono ?_
    rintro e w' ⟨bv', ev', rfl, hj, hfr', hat⟩
    exact ⟨0, bv', ev', rfl, hfr', .inl ⟨hf, rfl, hj, hat⟩⟩
  · refine (append_full w base b bv ev c sf X E v R B h hs hB hn hl hX (by omega) hfr).mono ?_
    rintro e w' ⟨rfl, hb⟩
    exact ⟨181, bv, ev, rfl, Fr.of_below hb, .inr ⟨by omega, rfl, hb, rfl, rfl⟩⟩
/-- the reference's -/
def RPost18 (w w' : World) (base bx : Nat) (rv : Value) (R Q : List Rec) (s c z : Int) (rv' : Value) : Prop :=
  (((framesL (R.map (·.2))).length : Int) + (framesL (Q.map (·.2))).length ≤ c ∧ z = 0 ∧ RT w' base bx rv' (R ++ Q) s c ∧ Fr (fun k => k = bx ∨ rv.ownBlock = some k) w w') ∨
  (c < ((framesL (R.map (·.2))).length : Int) + (framesL (Q.map (·.2))).length ∧ z = 181 ∧ Below w.heap.size w w' ∧ rv' = rv)
theorem rappend_either (w : World) (base b : Nat) (rv : Value) (R : List Rec) (s c : Int) (lv : Value) (Q : List Rec) (h : RT w base b rv R s c) (hq : OwnRecs w base lv Q) (hf : Fit (R.map (·.2))) (h8 : ∀ r ∈ R, Bytes8 r.2)
    (hqf : Fit (Q.map (·.2))) (hq8 : ∀ r ∈ Q, Bytes8 r.2) (hX : (framesL (R.map (·.2))).length ≤ 1073741824) (hY : (framesL (Q.map (·.2))).length ≤ 1073741824) (hbase : base ≤ w.heap.size) :
    Calls Try.prog 23 #[.pointer (some ⟨b, 0, none⟩), lv] w fun e w' => ∃ z rv', e = .returned (.int .i64 z) ∧ RPost18 w w' base b rv R Q s c z rv' := by
  refine (rappend_any w base b rv R s c lv Q h hq hf h8 hqf hq8 hX hY hbase).mono ?_
  intro e w' h9
  split at h9
  · obtain ⟨rfl, hb⟩ := h9
    exact ⟨181, rv, rfl, .inr ⟨by omega, rfl, hb, rfl⟩⟩
  · obtain ⟨rv', rfl, hx, hfr⟩ := h9
    exact ⟨0, rv', rfl, .inl ⟨by omega, rfl, hx, hfr⟩⟩
/-- what both leave -/
theorem St.both {w w1 w2 w3 w4 : World} {base bj bx : Nat} {bv ev rv bv' ev' rv' u1 u3 : Value} {R Q1 Q3 : List Rec} {s : Nat} {c z z' : Int} (h : St w base bj bx bv ev rv R s c)
    (h1 : OwnRecs w1 w.heap.size u1 Q1) (hb1 : Below w.heap.size w w1)
    (h2 : APost w1 w2 base bj bv ev c (framesL ((R.map (·.2)).take s)).length (framesL (R.map (·.2))) (endsL 0 (R.map (·.2))) Q1 z bv' ev')
    (h3 : OwnRecs w3 w2.heap.size u3 Q3) (hb3 : Below w2.heap.size w2 w3) (he : Q3.map (·.2) = Q1.map (·.2))
    (h4 : RPost18 w3 w4 base bx rv R Q3 s c z' rv') (hqf : Fit (Q1.map (·.2))) (hq8 : ∀ r ∈ Q3, Bytes8 r.2) (hc : ((framesL (R.map (·.2))).length : Int) ≤ c) (hbase : base ≤ w.heap.size) :
    z = z' ∧ ∃ R', Inc w4 base bj bx bv' ev' rv' R' s c w.heap.size u1 Q1 ∧ (framesL (R'.map (·.2))).length ≤ (framesL (R.map (·.2))).length + (framesL (Q1.map (·.2))).length ∧ ((framesL (R'.map (·.2))).length : Int) ≤ c ∧ Below base w1 w4 := by
  have hlen : (frames Q1).length = (framesL (Q1.map (·.2))).length := by rw [frames_L]
  have hz1 := hb1.size
  obtain ⟨hf2, h2⟩ := h2
  have hfr2 : Below base w1 w2 := hf2.below (by omega) (by
    rintro k hk9 (rfl | hk | hk)
    · have := h.b1; omega
    · have := (h.hj.2.1.lt k hk).1; omega
    · have := (h.hj.2.2.lt k hk).1; omega)
  have hz2 := hfr2.size
  have hz3 := hb3.size
  rw [hlen] at h2
  unfold RPost18 at h4
  rw [he] at h4
  rcases h2 with ⟨a1, rfl, hj, hat⟩ | ⟨a1, rfl, hb2, rfl, rfl⟩ <;> rcases h4 with ⟨a2, rfl, hx, hf4⟩ | ⟨a2, rfl, hb4, rfl⟩
  · refine ⟨rfl, R ++ Q3, h.inc h1 hb1 hj hf2 hat h3 hb3 he hx hf4 hqf hq8, ?_, ?_, ?_⟩
    · rw [List.map_append, framesL_app, List.length_append, he]
      exact Nat.le_refl _
    · rw [List.map_append, framesL_app, List.length_append, he]
      omega
    · refine (hfr2.trans (hb3.mono (by omega))).trans (hf4.below (by omega) ?_)
      rintro k hk9 (rfl | hk)
      · have := h.b2; omega
      · have := (h.hx.2.1.lt k hk).1; omega
  · omega
  · omega
  · refine ⟨rfl, R, ?_, by omega, hc, ?_⟩
    · have hbb : Below w1.heap.size w1 w4 := (hb2.trans (hb3.mono hz2)).trans (hb4.mono (by omega))
      have hs := (h.below hb1).below hbb
      refine ⟨hs, h1.1.below hbb, fun r hr => ⟨r.2, rfl, (h1.2 r hr).below hbb⟩, fun r hr g hg h9 => ?_, fun r hr g hg r' hr' h9 => ?_⟩
      · have := (h1.2 r hr).lt g hg
        have := (h.hj.2.1.lt g h9).2
        omega
      · have := (h1.2 r hr).lt g hg
        have := ((h.hx.2.2 r' hr').lt g h9).2
        omega
    · exact ((hb2.trans (hb3.mono hz2)).trans (hb4.mono (by omega))).mono (by omega)
theorem RT.keep {w : World} {base b : Nat} {rv : Value} {R : List Rec} {s c : Int} (h : RT w base b rv R s c) : w.cell? ⟨b, 0, none⟩ = some rv ∧ w.cell? ⟨b, 1, none⟩ = some (.int .i64 s) ∧ RT w base b rv R s c := ⟨h.1.cell 0, h.1.cell 1, h⟩

end Go.Proofs.Ytlllocfcljgacaa
