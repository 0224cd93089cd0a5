/- The laws of layer 16: the heap of a law; Set, Cancel as a law calls them. -/
import Derived.Test.YtogelnljkdcajaaOut16
namespace Go.Proofs.Ytogelnljkdcajaa
open Go.RowKit Go.Sort
set_option linter.unusedVariables false
set_option linter.unusedSimpArgs false

theorem Own.slB {w : World} {base e sz n B : Nat} {v : Value} {xs : List Value} (h : Own w base e sz v n xs) (hB : ∀ g, v.ownBlock = some g → g < B) : Sl w B v sz n xs := by
  refine ⟨h.1, ?_⟩
  rcases h.2 with ⟨rfl, rfl⟩ | ⟨g, cap, cur, rfl, hb, hg, hc, hm, _⟩
  · exact ⟨none, 0, rfl, by omega, by omega, by omega⟩
  · exact ⟨_, cap, rfl, hc, by unfold maxLen at hm; omega, fun _ => ⟨_, rfl, hB g rfl, fun j u hu => h.cells (g := g) rfl j u hu⟩⟩
theorem Blk.sl1 {w : World} {ab : Nat} {cs : Array Value} (h : Blk w ab tmT cs) (n : Nat) (hn : n ≤ 4611686018427387904) (hs : cs.size = n * 5) : Sl w (ab + 1) (.slice (some ⟨ab, 0, none⟩) n n) 5 n cs.toList := by
  refine ⟨by simpa using hs, _, n, rfl, Nat.le_refl _, by omega, fun _ => ⟨_, rfl, by simp, fun j u hu => ?_⟩⟩
  have h9 := h.cell j
  have e9 : (⟨ab, 0, none⟩ : Addr).add j = ⟨ab, j, none⟩ := by unfold Addr.add; split <;> simp_all
  rw [e9, h9]
  simpa using hu

/-- a heap that a law has made -/
structure HR (w0 w : World) (hb tb mb : Nat) (lv : Value) (L : List TV) : Prop where
  hp : HpS w w0.heap.size hb tb mb lv L
  bl : Below w0.heap.size w0 w
theorem HpS.lows {w : World} {base hb tb mb : Nat} {lv : Value} {L : List TV} (h : HpS w base hb tb mb lv L) : ∀ j, HBk tb mb lv j → base ≤ j := by
  obtain ⟨M, ht, hg⟩ := h.hp.st
  intro j hj
  rcases hj with h9 | h9 | h9
  · rw [h9]; exact ht.bt
  · rw [h9]; exact ht.bm
  · exact (ht.own.lt j h9).1
theorem HR.below {w0 w w' : World} {hb tb mb : Nat} {lv : Value} {L : List TV} (h : HR w0 w hb tb mb lv L) (k : Below w.heap.size w w') : HR w0 w' hb tb mb lv L := ⟨h.hp.below k, h.bl.trans (k.mono h.bl.size)⟩
theorem HR.step {w0 w w' : World} {hb tb mb : Nat} {lv lv' : Value} {L L' : List TV} (h : HR w0 w hb tb mb lv L) (k : HpS w' w0.heap.size hb tb mb lv' L') (hf : Fr (HBk tb mb lv) w w') : HR w0 w' hb tb mb lv' L' :=
  ⟨k, h.bl.trans (hf.below h.bl.size (fun j hj hS => by have := h.hp.lows j hS; omega))⟩
def TD.win (x : TD) : Win := ⟨x.f, x.t⟩
def TD.right (x : TD) : Prop := (0 ≤ x.a ∧ x.a ≤ 4194304) ∧ (0 ≤ x.w ∧ x.w ≤ 9) ∧ x.win.good ∧ x.b.length ≤ 1048576
instance (x : TD) : Decidable x.right := by unfold TD.right; exact inferInstance
theorem TV.right_d (x : TV) : x.d.right ↔ x.right := Iff.rfl

/-- what Set of timers leaves -/
def SetR (w0 w : World) (hb tb mb : Nat) (lv : Value) (L : List TV) (D : List TD) (e : Ending) (w' : World) : Prop :=
  ∃ lv', Fr (HBk tb mb lv) w w' ∧ NewB w lv lv' ∧ (((¬ ∀ x ∈ D, x.right) ∧ e = .returned (.int .i64 160) ∧ HR w0 w' hb tb mb lv' L) ∨
  ((∀ x ∈ D, x.right) ∧ e = .returned (.int .i64 0) ∧ ∃ L', HR w0 w' hb tb mb lv' L' ∧ (L'.map TV.d).Perm (D.foldl setD (L.map TV.d))))
theorem SetPost.r {w0 w w' : World} {hb tb mb : Nat} {lv : Value} {L D : List TV} {e : Ending} (h : SetPost w w0.heap.size hb tb mb lv L D e w') (hh : HR w0 w hb tb mb lv L) : SetR w0 w hb tb mb lv L (D.map TV.d) e w' := by
  rcases h with ⟨hn, he, hb⟩ | ⟨hr, he, lv', L', hp, hpm, hf, hnb⟩
  · refine ⟨lv, Fr.of_below hb, fun g hg => .inl hg, .inl ⟨fun h9 => hn (fun x hx => h9 x.d (List.mem_map_of_mem hx)), he, hh.below hb⟩⟩
  · refine ⟨lv', hf, hnb, .inr ⟨fun x hx => ?_, he, L', hh.step hp hf, hpm⟩⟩
    obtain ⟨y, hy, rfl⟩ := List.mem_map.1 hx
    exact hr y hy
/-- a block of another type than the heap's stands -/
theorem HR.keep {w0 w w' : World} {hb tb mb g t : Nat} {lv : Value} {L : List TV} {cs : Array Value} (h : HR w0 w hb tb mb lv L) (hf : Fr (HBk tb mb lv) w w') (hc : Blk w g t cs) (h1 : t ≠ treeT) (h2 : t ≠ tmT) : Blk w' g t cs :=
  hf.blk hc (h.hp.nwr hc h1 (fun e => by obtain ⟨c2, k⟩ := h.hp.typed.2.2.1 g e; exact hc.apart k h2 rfl))
/-- a block of the law's own is written -/
theorem HR.wr {w0 w w' : World} {hb tb mb qb t : Nat} {lv : Value} {L : List TV} {cs : Array Value} (h : HR w0 w hb tb mb lv L) (hq : Blk w qb t cs) (hf : Fr (fun k => k = qb) w w') (h0 : w0.heap.size ≤ qb) (h1 : t ≠ treeT) (h2 : t ≠ bT) (h3 : t ≠ hpT) (h4 : lv.ownBlock ≠ some qb) : HR w0 w' hb tb mb lv L := by
  obtain ⟨⟨c1, k1⟩, k2, k3, k4⟩ := h.hp.typed
  refine ⟨h.hp.fr hf (k4.apart hq (fun e => h3 e.symm)) (k1.apart hq (fun e => h1 e.symm)) (fun e => k2 _ _ _ hq e.symm) (fun g hg e => h4 (by rw [hg, e])) (fun g cs hc e => hc.apart hq (fun e9 => h2 e9.symm) e), h.bl.trans (hf.below h.bl.size (fun k hk e => by omega))⟩
theorem HR.own_ne {w0 w : World} {hb tb mb qb t : Nat} {lv : Value} {L : List TV} {cs : Array Value} (h : HR w0 w hb tb mb lv L) (hq : Blk w qb t cs) (h2 : t ≠ tmT) : lv.ownBlock ≠ some qb := fun e => by
  obtain ⟨c2, k⟩ := h.hp.typed.2.2.1 _ e
  exact hq.apart k h2 rfl
theorem setD_len (l : List TD) (x : TD) : (setD l x).length ≤ l.length + 1 := by
  unfold setD
  rw [List.length_append]
  have := List.length_filter_le (fun y => decide (y.nm ≠ x.nm)) l
  simp only [List.length_cons, List.length_nil]
  omega
theorem sets_len (D l : List TD) : (D.foldl setD l).length ≤ l.length + D.length := by
  induction D generalizing l with
  | nil => simp
  | cons x D ih =>
    have h1 := ih (setD l x)
    have h2 := setD_len l x
    rw [List.foldl_cons, List.length_cons]
    omega
/-- whether they were right or not -/
theorem SetR.both {w0 w w' : World} {hb tb mb : Nat} {lv : Value} {L : List TV} {D : List TD} {e : Ending} (h : SetR w0 w hb tb mb lv L D e w') : ∃ (z : Int) (lv' : Value) (L' : List TV), e = .returned (.int .i64 z) ∧ HR w0 w' hb tb mb lv' L' ∧ L'.length ≤ L.length + D.length ∧ Fr (HBk tb mb lv) w w' ∧ NewB w lv lv' := by
  obtain ⟨lv', hf, hn, ⟨_, he, hh⟩ | ⟨_, he, L', hh, hp⟩⟩ := h
  · exact ⟨_, lv', L, he, hh, by omega, hf, hn⟩
  · refine ⟨_, lv', L', he, hh, ?_, hf, hn⟩
    have h1 := hp.length_eq
    have h2 := sets_len D (L.map TV.d)
    simp only [List.length_map] at h1 h2
    omega
/-- Set of timers that lie in an array of the law's own -/
theorem hset_arr (w0 w : World) (hb tb mb ab n c : Nat) (lv : Value) (L D : List TV) (h : HR w0 w hb tb mb lv L) (hs : ∀ X, Fr (HBk tb mb lv) w X → Sl X w.heap.size (.slice (some ⟨ab, 0, none⟩) n c) 5 n (tms D)) (hD : D.length = n)
    (hk : ∀ x ∈ D, ∃ b, Own w b bT 1 x.kv x.kb.length (bys x.kb) ∧ Bytes8 x.kb) (hL : L.length + n < 100000) :
    Calls Try.prog 9 #[.pointer (some ⟨hb, 0, none⟩), .slice (some ⟨ab, 0, none⟩) n c] w (SetR w0 w hb tb mb lv L (D.map TV.d)) := by
  refine (hset_any w w0.heap.size hb tb mb lv L (some ⟨ab, 0, none⟩) c n w.heap.size D h.hp hD (Nat.le_refl _) (fun X hX => ⟨hs X hX, fun x hx => ?_⟩) h.bl.size hL).mono (fun e w' hp => hp.r h)
  obtain ⟨b, ho, h8⟩ := hk x hx
  exact ⟨(ho.fr hX (fun g hg => by obtain ⟨cs, hc⟩ := ho.typed g hg; exact h.hp.bnw g cs hc)).slB (fun g hg => (ho.lt g hg).2), h8⟩
/-- Set of one timer, made by out -/
theorem hset_out (w0 w w1 : World) (hb tb mb n : Nat) (lv u : Value) (L : List TV) (D : List Int) (a f t x : Int) (h : HR w0 w hb tb mb lv L) (ho : Own w1 w.heap.size bT 1 u n (bys D)) (hb1 : Below w.heap.size w w1) (hD : D.length = n) (h8 : Bytes8 D) (hL : L.length + 1 < 100000) :
    Calls Try.prog 9 #[.pointer (some ⟨hb, 0, none⟩), .slice (some ⟨w1.heap.size, 0, none⟩) 1 1] (w1.alloc (.cells #[.int .i64 a, u, .int .i64 f, .int .i64 t, .int .i64 x] tmT)) (SetR w0 (w1.alloc (.cells #[.int .i64 a, u, .int .i64 f, .int .i64 t, .int .i64 x] tmT)) hb tb mb lv L [⟨a, D, f, t, x⟩]) := by
  have h1 := (h.below hb1).below ((Below.refl w1.heap.size w1).alloc (Nat.le_refl _) (.cells #[.int .i64 a, u, .int .i64 f, .int .i64 t, .int .i64 x] tmT))
  have hk := Blk.new w1 tmT #[.int .i64 a, u, .int .i64 f, .int .i64 t, .int .i64 x]
  have hne : lv.ownBlock ≠ some w1.heap.size := fun e => by
    have := (h.below hb1).hp.lts _ (.inr (.inr e))
    omega
  refine hset_arr w0 _ hb tb mb w1.heap.size 1 1 lv L [⟨a, u, D, f, t, x⟩] h1 (fun X hX => ?_) rfl (fun y hy => ?_) hL
  · have h9 := hX.blk hk (h1.hp.nwr hk (by decide) hne)
    have h8 := h9.sl1 1 (by omega) rfl
    rw [World.size_alloc]
    exact h8
  · simp only [List.mem_singleton] at hy
    subst hy
    subst hD
    exact ⟨_, ho.alloc _, h8⟩

/-- what Cancel leaves -/
def CanR (w0 w : World) (hb tb mb : Nat) (lv : Value) (L : List TV) (a : Nm) (e : Ending) (w' : World) : Prop :=
  ∃ lv', Fr (HBk tb mb lv) w w' ∧ NewB w lv lv' ∧ ((a ∉ L.map TV.nm ∧ e = .returned (.tuple #[.agg #[.int .i64 0, .slice none 0 0, .int .i64 0, .int .i64 0, .int .i64 0], .bool false]) ∧ HR w0 w' hb tb mb lv' L) ∨
  (∃ x L', x ∈ L ∧ x.nm = a ∧ e = .returned (.tuple #[.agg x.cells.toArray, .bool true]) ∧ HR w0 w' hb tb mb lv' L' ∧ KeyO w' w0.heap.size x ∧ L.Perm (L' ++ [x])))
theorem hcan_out (w0 w w1 : World) (hb tb mb n : Nat) (lv : Value) (uA : Option Addr) (uc : Nat) (L : List TV) (D : List Int) (f t x : Int) (h : HR w0 w hb tb mb lv L) (ho : Sl w1 w1.heap.size (.slice uA n uc) 1 n (bys D)) (hb1 : Below w.heap.size w w1) (hD : D.length = n) :
    Calls Try.prog 13 #[.pointer (some ⟨hb, 0, none⟩), .agg #[.slice uA n uc, .int .i64 f, .int .i64 t], .int .i64 x] w1 (CanR w0 w1 hb tb mb lv L ⟨strOfNums D, f, t, x⟩) := by
  subst hD
  have h1 := h.below hb1
  refine (cancel_any w1 w0.heap.size hb tb mb lv L uA uc w1.heap.size D f t x h1.hp ho (Nat.le_refl _)).mono ?_
  rintro e w' (⟨hn, he, hb2⟩ | ⟨y, lv', L', hy, hnm, he, hp, hk, hpm, hf, hnb⟩)
  · exact ⟨lv, Fr.of_below hb2, fun g hg => .inl hg, .inl ⟨hn, he, h1.below hb2⟩⟩
  · exact ⟨lv', hf, hnb, .inr ⟨y, L', hy, hnm, he, h1.step hp hf, hk, hpm⟩⟩

/-- the names of a heap's timers are distinct -/
theorem HR.nd {w0 w : World} {hb tb mb : Nat} {lv : Value} {L : List TV} (h : HR w0 w hb tb mb lv L) : (L.map TV.nm).Nodup := by
  obtain ⟨M, _, hg⟩ := h.hp.hp.st
  exact hg.nd

set_option maxRecDepth 100000 in
set_option maxHeartbeats 4000000 in
theorem awake16 (w : World) : Calls Try.prog 8 #[] w fun e w' => e = .returned (.bool true) ∧ Below w.heap.size w w' := by
  go_enter Try.func8, Try.ntmps8
  go_wp2_with fail
  refine (new_any w w.heap.size (Nat.le_refl _)).mono ?_
  rintro e w1 ⟨hb, tb, mb, lv, rfl, hp, hbl⟩
  have H1 : Hid (HR w w1 hb tb mb lv []) := ⟨hp, hbl⟩
  clear hp hbl
  go_wp2_with fail
  have HS : Hid (Calls Try.prog 9 #[.pointer (some ⟨hb, 0, none⟩), .slice (some ⟨w1.heap.size + 1, 0, none⟩) 2 2] ((w1.alloc (.cells #[.slice none 0 0, .int .i64 0, .int .i64 5] keyT)).alloc (.cells #[.int .i64 5, .slice none 0 0, .int .i64 0, .int .i64 5, .int .i64 0, .int .i64 3, .slice none 0 0, .int .i64 0, .int .i64 5, .int .i64 1] tmT))
      (SetR w ((w1.alloc (.cells #[.slice none 0 0, .int .i64 0, .int .i64 5] keyT)).alloc (.cells #[.int .i64 5, .slice none 0 0, .int .i64 0, .int .i64 5, .int .i64 0, .int .i64 3, .slice none 0 0, .int .i64 0, .int .i64 5, .int .i64 1] tmT)) hb tb mb lv [] [⟨5, [], 0, 5, 0⟩, ⟨3, [], 0, 5, 1⟩])) := by
    have hB : Below w1.heap.size w1 ((w1.alloc (.cells #[.slice none 0 0, .int .i64 0, .int .i64 5] keyT)).alloc (.cells #[.int .i64 5, .slice none 0 0, .int .i64 0, .int .i64 5, .int .i64 0, .int .i64 3, .slice none 0 0, .int .i64 0, .int .i64 5, .int .i64 1] tmT)) := ((Below.refl w1.heap.size w1).alloc (Nat.le_refl _) _).alloc (by simp) _
    have hk : Blk ((w1.alloc (.cells #[.slice none 0 0, .int .i64 0, .int .i64 5] keyT)).alloc (.cells #[.int .i64 5, .slice none 0 0, .int .i64 0, .int .i64 5, .int .i64 0, .int .i64 3, .slice none 0 0, .int .i64 0, .int .i64 5, .int .i64 1] tmT)) (w1.heap.size + 1) tmT #[.int .i64 5, .slice none 0 0, .int .i64 0, .int .i64 5, .int .i64 0, .int .i64 3, .slice none 0 0, .int .i64 0, .int .i64 5, .int .i64 1] := by
      have h9 := Blk.new (w1.alloc (.cells #[.slice none 0 0, .int .i64 0, .int .i64 5] keyT)) tmT #[.int .i64 5, .slice none 0 0, .int .i64 0, .int .i64 5, .int .i64 0, .int .i64 3, .slice none 0 0, .int .i64 0, .int .i64 5, .int .i64 1]
      simpa using h9
    have h1 := H1.out.below hB
    have hne : lv.ownBlock ≠ some (w1.heap.size + 1) := fun e => by
      have := H1.out.hp.lts _ (.inr (.inr e))
      omega
    refine hset_arr w _ hb tb mb (w1.heap.size + 1) 2 2 lv [] [⟨5, .slice none 0 0, [], 0, 5, 0⟩, ⟨3, .slice none 0 0, [], 0, 5, 1⟩] h1 (fun X hX => ?_) rfl (fun y hy => ?_) (by simp)
    · have h9 := hX.blk hk (h1.hp.nwr hk (by decide) hne)
      have h8 := h9.sl1 2 (by omega) rfl
      simp only [World.size_alloc]
      exact h8
    · simp only [List.mem_cons, List.not_mem_nil, or_false] at hy
      rcases hy with rfl | rfl
      · exact ⟨0, Own.nil _ _ _ _, fun c hc => by cases hc⟩
      · exact ⟨0, Own.nil _ _ _ _, fun c hc => by cases hc⟩
  refine HS.out.mono ?_
  clear HS
  rintro e w2 ⟨lv2, _, _, ⟨hn, _, _⟩ | ⟨_, rfl, L2, h2, hpm⟩⟩
  · exfalso
    refine hn (fun x hx => ?_)
    simp only [List.mem_cons, List.not_mem_nil, or_false] at hx
    rcases hx with rfl | rfl
    · exact ⟨by decide, by decide, by decide, by decide⟩
    · exact ⟨by decide, by decide, by decide, by decide⟩
  have HPM : Hid ((L2.map TV.d).Perm [⟨5, [], 0, 5, 0⟩, ⟨3, [], 0, 5, 1⟩]) := by
    have e9 : ([⟨5, [], 0, 5, 0⟩, ⟨3, [], 0, 5, 1⟩] : List TD).foldl setD ([].map TV.d) = [⟨5, [], 0, 5, 0⟩, ⟨3, [], 0, 5, 1⟩] := by
      simp [setD, TD.nm]
    rw [e9] at hpm
    exact hpm
  have HL2 : Hid (L2.length = 2) := by
    have h9 := HPM.out.length_eq
    show L2.length = 2
    simpa using h9
  have HN : Hid (L2 ≠ [] ∧ (gt L2 0).a = 3) := by
    have h0 : 0 < L2.length := by rw [HL2.out]; omega
    refine ⟨fun e => by rw [e] at h0; simp at h0, ?_⟩
    have hm : (gt L2 0).d ∈ L2.map TV.d := List.mem_map_of_mem (by rw [gt_of h0]; exact List.getElem_mem h0)
    have h3 : (⟨3, [], 0, 5, 1⟩ : TD) ∈ L2.map TV.d := HPM.out.mem_iff.2 (by simp)
    obtain ⟨y, hy, hyd⟩ := List.mem_map.1 h3
    obtain ⟨i, hi, rfl⟩ := List.getElem_of_mem hy
    have hle := leT_a (h2.hp.hp.hp.min i hi)
    have hya : L2[i].a = 3 := congrArg TD.a hyd
    rw [gt_of hi, hya] at hle
    have hc := HPM.out.mem_iff.1 hm
    simp only [List.mem_cons, List.not_mem_nil, or_false] at hc
    have ha : (gt L2 0).d.a = (gt L2 0).a := rfl
    rcases hc with h9 | h9
    · rw [h9] at ha; simp at ha; omega
    · rw [h9] at ha; simp at ha; omega
  have H2 := hide h2
  clear h2 hpm
  go_wp2_with fail
  refine (hnext_any w2 _ hb tb mb lv2 L2 H2.out.hp).mono ?_
  rintro e w3 ⟨hb3, ⟨h9, _⟩ | ⟨_, u, rfl, ho3⟩⟩
  · exact absurd h9 HN.out.1
  obtain ⟨uA, uc, rfl, huc⟩ := ho3.sl.form
  rw [HN.out.2]
  have H3 := hide (H2.out.below hb3)
  clear hb3 ho3
  generalize gt L2 0 = y at *
  generalize y.kb.length = yn at *
  have HA : Hid (∀ cs, HR w (w3.alloc (.cells cs tmT)) hb tb mb lv2 L2) := fun cs => H3.out.below ((Below.refl _ _).alloc (Nat.le_refl _) _)
  go_wp2_with fail
  refine (hlen_any _ _ hb tb mb lv2 L2 (HA.out _).hp).mono ?_
  rintro e w4 ⟨rfl, rfl⟩
  rw [HL2.out]
  go_wp2_with fail
  go_ret
  exact ⟨rfl, (HA.out _).bl⟩

end Go.Proofs.Ytogelnljkdcajaa
