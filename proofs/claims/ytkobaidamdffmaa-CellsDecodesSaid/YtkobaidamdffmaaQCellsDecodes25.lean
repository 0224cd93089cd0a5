/- CellsPlays: plain: the bytes, and the keys of one key. / CellsDecodes: the plain law. / Decode: what stands while the loop runs. -/
import Derived.Test.YtkobaidamdffmaaQCellsDecodes23
import Derived.Test.YtkobaidamdffmaaQCellsDecodes24
import Derived.Test.YtkobaidamdffmaaQCellsDecodes19
import Derived.Test.YtkobaidamdffmaaQCellsDecodes22
import Derived.Test.YtkobaidamdffmaaQCellsDecodes11
import Derived.Test.YtkobaidamdffmaaQCellsDecodes18

namespace Go.Proofs.Ytkobaidamdffmaa
open Go.RowKit Go.Sort
set_option linter.unusedVariables false
set_option linter.unusedSimpArgs false

theorem encR_eq {L : List (PK × CV)} {D : List RC} {P : List PK} (h : MatT L D) (hn : (L.map (·.1)).Nodup) (hp : P.Perm (L.map (·.1))) (hs : P.Pairwise leP) : encB P L = encR D := by
  obtain ⟨Q, hl, hat, hq, hqs⟩ := h.keys hn
  have hPQ : P = Q := sortedP_eq (hp.trans hq.symm) hs hqs
  subst hPQ
  unfold encB encR
  rw [hl, List.flatMap_def, List.flatMap_def]
  congr 2
  refine List.ext_getElem (by simp [hl]) fun i h1 h2 => ?_
  simp only [List.getElem_map]
  obtain ⟨hh, hv⟩ := hat i (by simpa using h2)
  have e : (gv (lk L (P[i]'(by simpa using h1)))).d = (D[i]'(by simpa using h2)).d := by
    cases hc : lk L (P[i]'(by simpa using h1)) with
    | none => rw [hc] at hv; cases hv
    | some c =>
      rw [hc] at hv
      injection hv
  rw [e]
  unfold encP encX
  rw [hh.1, hh.2.1, hh.2.2]
theorem ofX_len {L : List (PK × CV)} {D : List RC} {O : List KV} {K : List Int} (h : MatT L D) (hn : (L.map (·.1)).Nodup) (hp : (O.map KV.p).Perm (L.map (·.1))) : (ofX O K).length = D.countP (fun x => decide (x.kb = K)) := by
  obtain ⟨Q, hl, hat, hq, _⟩ := h.keys hn
  have e1 : (ofX O K).length = (O.map KV.p).countP (fun p => decide (p.b = K)) := by
    unfold ofX
    rw [List.countP_map, List.countP_eq_length_filter]
    congr 1
    refine List.filter_congr fun x _ => ?_
    unfold offK
    simp
  rw [e1, (hp.trans hq.symm).countP_eq]
  refine (countP_map2 hl fun i h1 => ?_).symm
  obtain ⟨hh, _⟩ := hat i h1
  rw [hh.1]
theorem ofX_key {O : List KV} {K : List Int} {x : KV} (h : x ∈ ofX O K) : x ∈ O ∧ x.p.b = K := by
  unfold ofX offK at h
  rw [List.mem_filter] at h
  exact ⟨h.1, by simpa using h.2⟩
theorem MatT.right {w : World} {base tb cb : Nat} {wm fm : Option Nat} {bg : Bool} {L W : List (PK × CV)} {F : List (PK × Int)} {D : List RC} (h : MatT L D) (ht : TabS w base tb cb wm fm bg L W F) : ∀ x ∈ D, keyR x.kb.length x.f x.t ∧ x.d.right := fun x hx => by
  obtain ⟨p, hp, hd⟩ := h.fwd x hx
  refine ⟨?_, ?_⟩
  · rw [← hp.1, ← hp.2.1, ← hp.2.2]
    exact ⟨p.ok.2.1, p.ok.2.2⟩
  · cases hl : lk L p with
    | none => rw [hl] at hd; cases hd
    | some c =>
      rw [hl] at hd
      injection hd with hd
      rw [← hd]
      exact (ht.acc _ (lk_mem hl)).2.2
/-- Encode of what is begun -/
theorem cencb_any (w : World) (base tb cb : Nat) (wm fm : Option Nat) (L W : List (PK × CV)) (F : List (PK × Int)) (h : TabS w base tb cb wm fm true L W F) :
    Calls Try.prog 19 #[.pointer (some ⟨tb, 0, none⟩)] w fun e w' => e = .returned (.tuple #[.slice none 0 0, .int .i64 171]) ∧ Below w.heap.size w w' := by
  obtain ⟨t0, t1, t2, t3, htl⟩ := h.open
  clear h
  go_enter Try.func19, Try.ntmps19
  go_wp2_with fail
  go_ret2
  exact ⟨rfl, Below.refl _ _⟩
end Go.Proofs.Ytkobaidamdffmaa

namespace Go.Proofs.Ytkobaidamdffmaa
open Go.RowKit
set_option linter.unusedVariables false
set_option linter.unusedSimpArgs false

def kd (x : PK × CV) : PK × CD := (x.1, x.2.d)
theorem lk_kd : ∀ (L : List (PK × CV)) (q : PK), lk (L.map kd) q = (lk L q).map CV.d
  | [], q => rfl
  | (p, c) :: L, q => by
    have ih := lk_kd L q
    show lk ((p, c.d) :: L.map kd) q = _
    unfold lk
    split
    · rfl
    · exact ih
theorem lk_pair (g : PK → CD) : ∀ (D : List PK) (q : PK), lk (D.map fun p => (p, g p)) q = if q ∈ D then some (g q) else none
  | [], q => rfl
  | p :: D, q => by
    have ih := lk_pair g D q
    rw [List.map_cons]
    unfold lk
    by_cases h : q = p
    · subst h
      rw [if_pos rfl, if_pos List.mem_cons_self]
    · rw [if_neg h, ih]
      by_cases h2 : q ∈ D
      · rw [if_pos h2, if_pos (List.mem_cons_of_mem _ h2)]
      · rw [if_neg h2, if_neg (fun h3 => by
          rcases List.mem_cons.1 h3 with h3 | h3
          · exact h h3
          · exact h2 h3)]
theorem ltP_le {x y : PK} (h : ltP x y) : leP x y := fun k => ltP_irr x (ltP_trans h k)
theorem le_lt {D : List PK} (h : D.Pairwise leP) (hn : D.Nodup) : D.Pairwise ltP := by
  have h1 := List.pairwise_and_iff.2 ⟨h, hn⟩
  refine h1.imp fun {x y} ⟨a, b⟩ => ?_
  rcases ltP_tri x y with h9 | h9 | h9
  · exact h9
  · exact absurd h9 b
  · exact absurd h9 a
theorem lt_nodup {D : List PK} (h : D.Pairwise ltP) : D.Nodup := h.imp (fun {x y} a => by intro e; subst e; exact ltP_irr _ a)
theorem lk_memM {α : Type} : ∀ {M : List (PK × α)} {y : PK × α}, (M.map (·.1)).Nodup → y ∈ M → lk M y.1 = some y.2
  | [], y, _, h => by cases h
  | (p, c) :: M, y, hn, h => by
    rw [List.map_cons, List.nodup_cons] at hn
    unfold lk
    rcases List.mem_cons.1 h with h | h
    · rw [h, if_pos rfl]
    · rw [if_neg (fun e => hn.1 (by show p ∈ _; rw [← e]; exact List.mem_map_of_mem h))]
      exact lk_memM hn.2 h
/-- a table's bytes are those of a row of cells -/
theorem encB_M (D : List PK) (L : List (PK × CV)) : encB D L = encM (D.map fun p => (p, (gv (lk L p)).d)) := by
  unfold encB encM
  rw [List.length_map, List.flatMap_map]
theorem decT_enc {w : World} {base tb cb : Nat} {wm fm : Option Nat} {bg : Bool} {L W : List (PK × CV)} {F : List (PK × Int)} {D : List PK} (ht : TabS w base tb cb wm fm bg L W F) (hp : D.Perm (L.map (·.1))) (hs : D.Pairwise leP) (hl : L.length < 4294967296) :
    DecT (encB D L) (D.map fun p => (p, (gv (lk L p)).d)) := by
  rw [encB_M]
  have hn : D.Nodup := hp.nodup_iff.2 ht.nodup
  refine DecT.of (fun x hx => ?_) ?_ ?_
  · obtain ⟨p, hpm, rfl⟩ := List.mem_map.1 hx
    obtain ⟨c, hc, hm⟩ := lk_memE9 (hp.mem_iff.1 hpm)
    simp only [hc]
    exact ⟨(ht.acc _ hm).2.2, (ht.acc _ hm).2.1⟩
  · rw [List.map_map]
    have he : (D.map ((·.1) ∘ fun p => (p, (gv (lk L p)).d))) = D := List.map_id D
    rw [he]
    exact le_lt hs hn
  · rw [List.length_map]
    have := hp.length_eq
    simp at this
    omega
theorem same_of {L L' : List (PK × CV)} {D : List PK} (hp : D.Perm (L.map (·.1))) (h : L'.map kd = D.map fun p => (p, (gv (lk L p)).d)) : SameT L L' := fun q => by
  rw [← lk_kd L' q, h, lk_pair]
  split
  · next h1 =>
    obtain ⟨c, hc, _⟩ := lk_memE9 (hp.mem_iff.1 h1)
    rw [hc]
    rfl
  · next h1 =>
    cases hc : lk L q with
    | none => rfl
    | some c => exact absurd (hp.mem_iff.2 (List.mem_map_of_mem (f := (·.1)) (lk_mem hc))) h1
theorem MatT.same {L L' : List (PK × CV)} {D : List RC} (h : MatT L D) (hs : SameT L L') : MatT L' D := by
  refine ⟨h.so, fun x hx => ?_, fun p c hc => ?_⟩
  · obtain ⟨p, hp, hd⟩ := h.fwd x hx
    exact ⟨p, hp, by rw [← hs p]; exact hd⟩
  · have h1 := hs p
    rw [hc] at h1
    cases hl : lk L p with
    | none => rw [hl] at h1; cases h1
    | some c' => exact h.bwd p c' hl
theorem kr_sort : ∀ {M : List (PK × CD)} {R : List RC}, M.map kf = R.map rf → (M.map (·.1)).Pairwise ltP → SortR R
  | [], [], _, _ => List.Pairwise.nil
  | [], x :: R, h, _ => by simp at h
  | y :: M, [], h, _ => by simp at h
  | y :: M, x :: R, h, hs => by
    rw [List.map_cons, List.map_cons, List.cons.injEq] at h
    rw [List.map_cons, List.pairwise_cons] at hs
    refine List.pairwise_cons.2 ⟨fun z hz => ?_, kr_sort h.2 hs.2⟩
    have h1 : rf z ∈ M.map kf := by rw [h.2]; exact List.mem_map_of_mem hz
    obtain ⟨u, hu, he⟩ := List.mem_map.1 h1
    exact (has_lt (kf_rf h.1).1 (kf_rf he).1).2 (hs.1 u.1 (List.mem_map_of_mem hu))
theorem mat_of {L : List (PK × CV)} {M : List (PK × CD)} {R : List RC} (h1 : L.map kd = M) (h2 : M.map kf = R.map rf) (hs : (M.map (·.1)).Pairwise ltP) : MatT L R := by
  refine ⟨kr_sort h2 hs, fun x hx => ?_, fun p c hc => ?_⟩
  · have h3 : rf x ∈ M.map kf := by rw [h2]; exact List.mem_map_of_mem hx
    obtain ⟨u, hu, he⟩ := List.mem_map.1 h3
    have h4 := kf_rf he
    exact ⟨u.1, h4.1, by rw [← lk_kd, h1, lk_memM (lt_nodup hs) hu, h4.2]⟩
  · have h3 : kd (p, c) ∈ M := by rw [← h1]; exact List.mem_map_of_mem (lk_mem hc)
    have h4 : kf (kd (p, c)) ∈ R.map rf := by rw [← h2]; exact List.mem_map_of_mem h3
    obtain ⟨x, hx, he⟩ := List.mem_map.1 h4
    exact ⟨x, hx, (kf_rf he.symm).1⟩
/-- the table that was read has the bytes that were read -/
theorem enc_back {B : List Int} {L : List (PK × CV)} {M : List (PK × CD)} {D : List PK} (hM : DecT B M) (h1 : L.map kd = M) (hp : D.Perm (L.map (·.1))) (hs : D.Pairwise leP) : encB D L = B := by
  obtain ⟨e, _, k3⟩ := hM.enc
  have hk : L.map (·.1) = M.map (·.1) := by rw [← h1, List.map_map]; rfl
  have hD : D = M.map (·.1) := sortedP_eq (by rw [← hk]; exact hp) hs (k3.imp ltP_le)
  rw [e, encB_M, hD, List.map_map]
  congr 1
  have : ∀ y ∈ M, ((fun p => (p, (gv (lk L p)).d)) ∘ (·.1)) y = y := fun y hy => by
    have h9 := lk_kd L y.1
    rw [h1, lk_memM (lt_nodup k3) hy] at h9
    cases hl : lk L y.1 with
    | none => rw [hl] at h9; cases h9
    | some c =>
      rw [hl] at h9
      have h8 : y.2 = c.d := Option.some.inj h9
      simp only [Function.comp, hl]
      show (y.1, c.d) = y
      rw [← h8]
  conv => rhs; rw [← List.map_id M]
  exact List.map_congr_left this
end Go.Proofs.Ytkobaidamdffmaa

namespace Go.Proofs.Ytkobaidamdffmaa
open Go.RowKit
set_option linter.unusedVariables false
set_option linter.unusedSimpArgs false

/-- a table that only has been put into, a key that stood last, a reader -/
structure DcW (w X : World) (tb cb rb lb : Nat) (L : List (PK × CV)) (lcs : Array Value) (rv : Value) (s : RS) : Prop where
  tab : TabG w X tb cb none none false L [] []
  lst : Blk X lb plT lcs
  rd : RdI X w.heap.size rb rv s
  lo : w.heap.size ≤ lb
section
variable {w X Y : World} {tb cb rb lb g t : Nat} {L : List (PK × CV)} {lcs cs : Array Value} {rv : Value} {s s' : RS}
theorem RdI.below {B : Nat} (h : RdI X B rb rv s) (k : Below X.heap.size X Y) : RdI Y B rb rv s := ⟨h.blk.below k h.blk.lt, h.sl.below (k.mono (Nat.le_of_lt (Nat.lt_of_le_of_lt h.lo h.blk.lt))), h.lo, h.b8⟩
theorem DcW.below (h : DcW w X tb cb rb lb L lcs rv s) (k : Below X.heap.size X Y) : DcW w Y tb cb rb lb L lcs rv s := ⟨h.tab.below k, h.lst.below k h.lst.lt, h.rd.below k, h.lo⟩
theorem DcW.alloc (h : DcW w X tb cb rb lb L lcs rv s) (o : Obj) : DcW w (X.alloc o) tb cb rb lb L lcs rv s := h.below ((Below.refl _ _).alloc (Nat.le_refl _) o)
/-- a block of another type is written -/
theorem TabG.far (h : TabG w X tb cb none none false L [] []) (hg : Blk X g t cs) (hf : Fr (fun j => j = g) X Y) (ht : t ≠ tabT) (h2 : t ≠ bT) (hw : w.heap.size ≤ g) : TabG w Y tb cb none none false L [] [] :=
  ⟨h.ts.fr hf (fun j hj e => h.ts.nblk hg ht (by rw [← e]; exact hj)) (fun g' cs' hb e => by
    rw [e] at hb
    exact (hb.apart hg (Ne.symm h2)) rfl), h.bl.trans (hf.below h.bl.size (fun k hk e => by omega))⟩
theorem DcW.far (h : DcW w X tb cb rb lb L lcs rv s) (hg : Blk X g t cs) (hf : Fr (fun j => j = g) X Y) (ht : t ≠ tabT ∧ t ≠ bT ∧ t ≠ plT ∧ t ≠ rdT) (hw : w.heap.size ≤ g) : DcW w Y tb cb rb lb L lcs rv s :=
  ⟨h.tab.far hg hf ht.1 ht.2.1 hw, hf.blk h.lst (fun e => by have := h.lst; rw [e] at this; exact this.apart hg (Ne.symm ht.2.2.1) rfl),
   ⟨hf.blk h.rd.blk (fun e => by have := h.rd.blk; rw [e] at this; exact this.apart hg (Ne.symm ht.2.2.2) rfl), h.rd.sl.fr hf h.tab.bl.size (fun k hk e => by omega), h.rd.lo, h.rd.b8⟩, h.lo⟩
theorem DcW.rdq (h : DcW w X tb cb rb lb L lcs rv s) (hq : RdQ X w.heap.size rb s' Y) : ∃ rv', DcW w Y tb cb rb lb L lcs rv' s' := by
  obtain ⟨⟨rv', h1⟩, hf⟩ := hq
  exact ⟨rv', h.tab.far h.rd.blk hf (by decide) (by decide) h.rd.lo, hf.blk h.lst (fun e => by have := h.lst; rw [e] at this; exact this.apart h.rd.blk (by decide) rfl), h1, h.lo⟩
theorem SlQ.below {B : Nat} {O : List Int} {u : Value} (h : SlQ B O u X) (k : Below X.heap.size X Y) (hB : B ≤ X.heap.size) : SlQ B O u Y := ⟨h.1.below (k.mono hB), h.2⟩
theorem SlQ.fr {B : Nat} {O : List Int} {u : Value} (h : SlQ B O u X) (hf : Fr (fun j => j = g) X Y) (hB : B ≤ X.heap.size) (hg : B ≤ g) : SlQ B O u Y := ⟨h.1.fr hf hB (fun k hk e => by omega), h.2⟩
/-- the last key is written -/
theorem DcW.last (h : DcW w X tb cb rb lb L lcs rv s) (hf : Fr (fun j => j = lb) X Y) (hn : Blk Y lb plT cs) : DcW w Y tb cb rb lb L cs rv s :=
  ⟨h.tab.far h.lst hf (by decide) (by decide) h.lo, hn, ⟨hf.blk h.rd.blk (fun e => by have := h.rd.blk; rw [e] at this; exact this.apart h.lst (by decide) rfl), h.rd.sl.fr hf h.tab.bl.size (fun k hk e => by have := h.lo; omega), h.rd.lo, h.rd.b8⟩, h.lo⟩
end
theorem p256_add (a : Nat) : ∀ k, (256 : Int) ^ a ≤ 256 ^ (a + k)
  | 0 => Int.le_refl _
  | k + 1 => by
    have h1 := p256_add a k
    have hp : (0 : Int) < 256 ^ (a + k) := Int.pow_pos (by omega)
    rw [← Nat.add_assoc, Int.pow_succ]
    omega
theorem p256_mono {a b : Nat} (h : a ≤ b) : (256 : Int) ^ a ≤ 256 ^ b := by
  obtain ⟨k, rfl⟩ := Nat.exists_eq_add_of_le h
  exact p256_add a k
theorem nmO_lt {s : RS} (c : Nat) (h : Bytes8 s.1) : nmO s c < 256 ^ c := by
  have hp : (0 : Int) < 256 ^ c := Int.pow_pos (by omega)
  unfold nmO
  cases hn : numL 18014398509481984 0 (tkO s c) with
  | none => exact hp
  | some n =>
    have h8 : Bytes8 (tkO s c) := by
      unfold tkO
      split
      · exact fun c hc => by cases hc
      · exact h.take c
    have h1 := numL_lt _ _ _ h8 hn
    have h2 : (tkO s c).length ≤ c := by
      unfold tkO
      split
      · exact Nat.zero_le _
      · rw [List.length_take]; omega
    have h3 : (256 : Int) ^ (tkO s c).length ≤ 256 ^ c := p256_mono h2
    show n < _
    omega
/-- the loop: k records are read -/
structure DcP (D : List Int) (n k : Nat) (L : List (PK × CV)) (q : Option PK) (lcs : Array Value) (s : RS) : Prop where
  good : s.2 = false → ∀ M, DecT D M ↔ ∃ M', M = L.map (fun x => (x.1, x.2.d)) ++ M' ∧ Dec q (n - k) s.1 M'
  bad : s.2 = true → k = n ∧ ∀ M, ¬ DecT D M
  none_ : k = 0 → q = none
  some_ : 0 < k → ∃ p, q = some p ∧ lcs = #[.string (strOfNums p.b), .int .i64 p.f, .int .i64 p.t]
  ord : ∀ x ∈ L, ∃ p, q = some p ∧ (x.1 = p ∨ ltP x.1 p)
theorem DcP.start {D : List Int} {n : Nat} {lcs : Array Value} (h8 : Bytes8 D) (hn : nmO (D, false) 4 = n) : DcP D n 0 [] none lcs (nmS (D, false) 4) := by
  refine ⟨fun hs M => ⟨fun h => ⟨M, rfl, ?_⟩, ?_⟩, fun hs => ⟨?_, fun M hM => ?_⟩, fun _ => rfl, fun h => by omega, fun x hx => by cases hx⟩
  · have h1 := h.fwd
    have h2 : M.length = n := by have := h1.1; omega
    rw [← h2]
    exact h1.2.2
  · rintro ⟨M', rfl, h⟩
    exact DecT.back h8 hn hs h
  · have h1 : nmO (D, false) 4 = 0 := by
      by_cases h2 : numL 18014398509481984 0 (tkO (D, false) 4) = none
      · unfold nmO; rw [h2]; rfl
      · have h3 : (tkS (D, false) 4).2 = true := by
          unfold nmS at hs
          rw [if_neg h2] at hs
          exact hs
        have h4 : tkO (D, false) 4 = [] := by
          unfold tkS at h3
          unfold tkO
          split
          · rfl
          · next h5 => rw [if_neg h5] at h3; cases h3
        unfold nmO
        rw [h4]
        rfl
    omega
  · rw [hM.fwd.2.1] at hs
    cases hs
theorem lk_none_of {L : List (PK × CV)} {p : PK} (h : ∀ x ∈ L, ltP x.1 p) : lk L p = none := by
  cases hl : lk L p with
  | none => rfl
  | some c => exact absurd (h _ (lk_mem hl)) (ltP_irr p)
theorem put_none : ∀ {L : List (PK × CV)} {p : PK} {c : CV}, lk L p = none → putM L p c = L ++ [(p, c)]
  | [], p, c, _ => rfl
  | (b, u) :: L, p, c, h => by
    unfold lk at h
    unfold putM
    split at h
    · cases h
    · next h1 =>
      rw [if_neg h1, put_none h]
      rfl
theorem DcP.next {D : List Int} {n k : Nat} {L : List (PK × CV)} {q : Option PK} {lcs : Array Value} {s : RS} {p : PK} {c : CV} (h : DcP D n k L q lcs s) (hk : k < n) (hs : s.2 = false) (h8 : Bytes8 s.1) (hb : (q10 s).2 = false) (e1 : p.b = dB s) (e2 : p.f = dF s) (e3 : p.t = dT s) (hc : c.d = dC s) (hr : (dC s).right)
    (ho : ∀ q', q = some q' → ordW q'.b (dB s) q'.f q'.t (dF s) (dT s) < 0) : putM L p c = L ++ [(p, c)] ∧ DcP D n (k + 1) (L ++ [(p, c)]) (some p) #[.string (strOfNums p.b), .int .i64 p.f, .int .i64 p.t] (q10 s) := by
  have hlt : ∀ x ∈ L, ltP x.1 p := fun x hx => by
    obtain ⟨y, hy, h9⟩ := h.ord x hx
    have h7 := ho y hy
    rw [← e1, ← e2, ← e3, ordW_eq] at h7
    have h6 := (ordP_neg _ _).1 h7
    rcases h9 with h9 | h9
    · rw [h9]; exact h6
    · exact ltP_trans h9 h6
  refine ⟨put_none (lk_none_of hlt), fun _ M => ?_, fun h9 => (by rw [hb] at h9; cases h9), fun h9 => by omega, fun _ => ⟨p, rfl, rfl⟩, fun x hx => ⟨p, rfl, ?_⟩⟩
  · rw [h.good hs M]
    have hn : n - k = (n - (k + 1)) + 1 := by omega
    rw [hn]
    constructor
    · rintro ⟨M', rfl, h9⟩
      obtain ⟨M2, rfl, h6⟩ := (Dec.next hs h8 hb e1 e2 e3 hr ho).1 h9
      refine ⟨M2, ?_, h6⟩
      rw [List.map_append, List.append_assoc]
      simp [hc]
    · rintro ⟨M2, rfl, h6⟩
      refine ⟨(p, dC s) :: M2, ?_, (Dec.next hs h8 hb e1 e2 e3 hr ho).2 ⟨M2, rfl, h6⟩⟩
      rw [List.map_append, List.append_assoc]
      simp [hc]
  · rcases List.mem_append.1 hx with hx | hx
    · exact .inr (hlt x hx)
    · rcases List.mem_cons.1 hx with rfl | hx
      · exact .inl rfl
      · cases hx
theorem DcP.no {D : List Int} {n k : Nat} {L : List (PK × CV)} {q : Option PK} {lcs : Array Value} {s : RS} (h : DcP D n k L q lcs s) (hk : k < n) (hs : s.2 = false) (hd : ∀ m M, ¬ Dec q (m + 1) s.1 M) : ∀ M, ¬ DecT D M := fun M hM => by
  obtain ⟨M', _, h9⟩ := (h.good hs M).1 hM
  rw [show n - k = (n - (k + 1)) + 1 by omega] at h9
  exact hd _ _ h9
theorem DcP.done {D : List Int} {n : Nat} {L : List (PK × CV)} {q : Option PK} {lcs : Array Value} {s : RS} (h : DcP D n n L q lcs s) : (s.2 = false ∧ s.1 = [] → DecT D (L.map fun x => (x.1, x.2.d))) ∧ (¬ (s.2 = false ∧ s.1 = []) → ∀ M, ¬ DecT D M) := by
  refine ⟨fun ⟨h1, h2⟩ => ?_, fun h1 M hM => ?_⟩
  · refine (h.good h1 _).2 ⟨[], by rw [List.append_nil], ?_⟩
    rw [Nat.sub_self]
    exact ⟨h2, rfl⟩
  · cases hs : s.2
    · obtain ⟨M', _, h9⟩ := (h.good hs M).1 hM
      rw [Nat.sub_self] at h9
      exact h1 ⟨hs, h9.1⟩
    · exact (h.bad hs).2 M hM
end Go.Proofs.Ytkobaidamdffmaa
