/- What the functions of package shuffle do to a queue: New, Push, Take, Ack, Nack, Len, Passed. -/
import Derived.Test.YtlaijnabdlidiaaProg
import Derived.Test.YtlaijnabdlidiaaApp
import Derived.Test.YtlaijnabdlidiaaCut
namespace Go.Proofs.Ytlaijnabdlidiaa
open Go.RowKit
set_option linter.unusedVariables false
set_option linter.unusedSimpArgs false

/-- an item -/
structure Itm where
  t : Int
  n : Int
def Itm.cells (p : Itm) : List Value := [.int .i64 p.t, .int .i64 p.n]
theorem Itm.cells2 (p : Itm) : p.cells.length = 2 := rfl
def its (D : List Itm) : List Value := D.flatMap Itm.cells
theorem its_app (C D : List Itm) : its (C ++ D) = its C ++ its D := List.flatMap_append ..
theorem its_len (D : List Itm) : (its D).length = D.length * 2 := flat_len _ 2 Itm.cells2 D
theorem its_ok (D : List Itm) : ∀ u ∈ its D, u.oneCell' = true := by
  intro u hu
  simp only [its, List.mem_flatMap] at hu
  obtain ⟨p, _, hp⟩ := hu
  simp only [Itm.cells, List.mem_cons, List.not_mem_nil, or_false] at hp
  rcases hp with rfl | rfl <;> rfl
theorem tyIt : SlTy Try.prog 29 26 2 16 (.agg #[.int .i64 0, .int .i64 0]) := ⟨Try.underlying29, info_parts (by kernel_rfl), rfl, by omega⟩

/-- the function by which a queue asks an item's time -/
def FV : Value := .func (.func 8) #[] #[]
abbrev qT : Nat := 57
abbrev iT : Nat := 26

/-- At block b lies a queue in which W waits, Bn is the bundle and p have passed; what it lies in are the blocks of F. -/
def QR (w : World) (base b : Nat) (F : Nat → Prop) (W Bn : List Itm) (p : Int) : Prop :=
  ∃ wv bv, Blk w b qT #[FV, wv, bv, .int .i64 p] ∧ Own w base iT 2 wv W.length (its W) ∧ Own w base iT 2 bv Bn.length (its Bn) ∧ (∀ g, wv.ownBlock = some g → bv.ownBlock ≠ some g) ∧
    F b ∧ (∀ g, wv.ownBlock = some g → F g) ∧ (∀ g, bv.ownBlock = some g → F g) ∧ (∀ k, F k → base ≤ k ∧ k < w.heap.size)

section
variable {w w' : World} {base b : Nat} {F : Nat → Prop} {W Bn : List Itm} {p : Int}
theorem QR.to (h : QR w base b F W Bn p) (hz : w.heap.size ≤ w'.heap.size) (he : ∀ k, F k → w'.heap[k]? = w.heap[k]?) : QR w' base b F W Bn p := by
  obtain ⟨wv, bv, h1, h2, h3, h4, h5, h6, h7, h8⟩ := h
  exact ⟨wv, bv, h1.to (he _ h5), h2.to (fun g hg => he _ (h6 g hg)), h3.to (fun g hg => he _ (h7 g hg)), h4, h5, h6, h7, fun k hk => ⟨(h8 k hk).1, Nat.lt_of_lt_of_le (h8 k hk).2 hz⟩⟩
theorem QR.inF (h : QR w base b F W Bn p) : ∀ k, F k → base ≤ k ∧ k < w.heap.size := by
  obtain ⟨wv, bv, h1, h2, h3, h4, h5, h6, h7, h8⟩ := h
  exact h8
theorem QR.fr {S : Nat → Prop} (h : QR w base b F W Bn p) (hf : Fr S w w') (hs : ∀ k, F k → ¬ S k) : QR w' base b F W Bn p := h.to hf.size (fun k hk => hf.block k (h.inF k hk).2 (hs k hk))
theorem QR.below (h : QR w base b F W Bn p) (hb : Below w.heap.size w w') : QR w' base b F W Bn p := h.to hb.size (fun k hk => hb.block k (h.inF k hk).2)
theorem QR.alloc (h : QR w base b F W Bn p) (o : Obj) : QR (w.alloc o) base b F W Bn p := h.below ((Below.refl _ _).alloc (Nat.le_refl _) o)
end

/-- the blocks in which a queue lies -/
def foot (b : Nat) (wv bv : Value) (k : Nat) : Prop := k = b ∨ wv.ownBlock = some k ∨ bv.ownBlock = some k
theorem QR.make {w : World} {base b : Nat} {W Bn : List Itm} {p : Int} {wv bv : Value} (h1 : Blk w b qT #[FV, wv, bv, .int .i64 p]) (h2 : Own w base iT 2 wv W.length (its W)) (h3 : Own w base iT 2 bv Bn.length (its Bn))
    (h4 : ∀ g, wv.ownBlock = some g → bv.ownBlock ≠ some g) (hb : base ≤ b) : QR w base b (foot b wv bv) W Bn p := by
  refine ⟨wv, bv, h1, h2, h3, h4, .inl rfl, fun g hg => .inr (.inl hg), fun g hg => .inr (.inr hg), ?_⟩
  rintro k (rfl | hk | hk)
  · exact ⟨hb, h1.lt⟩
  · exact h2.lt k hk
  · exact h3.lt k hk

/-- what a call at a queue leaves: the result, the queue, what has turned -/
def QPost (w : World) (base b : Nat) (F : Nat → Prop) (r : Value) (W Bn : List Itm) (p : Int) (e : Ending) (w' : World) : Prop :=
  ∃ F', e = .returned r ∧ QR w' base b F' W Bn p ∧ Fr F w w' ∧ (∀ k, F' k → F k ∨ w.heap.size ≤ k)

theorem qnew_any (w : World) (base : Nat) (hb : base ≤ w.heap.size) : Calls Try.prog 7 #[FV] w fun e w' => e = .returned (.pointer (some ⟨w.heap.size, 0, none⟩)) ∧
    QR w' base w.heap.size (fun k => k = w.heap.size) [] [] 0 ∧ w' = w.alloc (.cells #[FV, .slice none 0 0, .slice none 0 0, .int .i64 0] qT) := by
  unfold FV
  go_enter Try.func7, Try.ntmps7
  go_wp2
  go_ret
  refine ⟨rfl, ⟨.slice none 0 0, .slice none 0 0, Blk.new _ _ _, Own.nil _ _ _ _, Own.nil _ _ _ _, by simp [Value.ownBlock], rfl, by simp [Value.ownBlock], by simp [Value.ownBlock], ?_⟩, rfl⟩
  rintro k rfl
  simp
  exact hb

/-- the cells of a queue -/
theorem QR.open {w : World} {base b : Nat} {F : Nat → Prop} {W Bn : List Itm} {p : Int} (h : QR w base b F W Bn p) :
    ∃ wA wc bA bc, w.cell? ⟨b, 0, none⟩ = some FV ∧ w.cell? ⟨b, 1, none⟩ = some (.slice wA W.length wc) ∧ w.cell? ⟨b, 2, none⟩ = some (.slice bA Bn.length bc) ∧ w.cell? ⟨b, 3, none⟩ = some (.int .i64 p) ∧
      w.frozen? ⟨b, 1, none⟩ = false ∧ w.frozen? ⟨b, 2, none⟩ = false ∧ w.frozen? ⟨b, 3, none⟩ = false ∧ b < w.heap.size ∧ W.length ≤ wc ∧
      Hid (Blk w b qT #[FV, .slice wA W.length wc, .slice bA Bn.length bc, .int .i64 p] ∧ Own w base iT 2 (.slice wA W.length wc) W.length (its W) ∧ Own w base iT 2 (.slice bA Bn.length bc) Bn.length (its Bn) ∧
        (∀ g, (Value.slice wA W.length wc).ownBlock = some g → (Value.slice bA Bn.length bc).ownBlock ≠ some g) ∧
        F b ∧ (∀ g, (Value.slice wA W.length wc).ownBlock = some g → F g) ∧ (∀ g, (Value.slice bA Bn.length bc).ownBlock = some g → F g) ∧ (∀ k, F k → base ≤ k ∧ k < w.heap.size)) := by
  obtain ⟨wv, bv, h1, h2, h3, rest⟩ := h
  obtain ⟨wA, wc, rfl, hwc⟩ := h2.sl.form
  obtain ⟨bA, bc, rfl, _⟩ := h3.sl.form
  exact ⟨wA, wc, bA, bc, h1.cell 0, h1.cell 1, h1.cell 2, h1.cell 3, h1.frozen 1, h1.frozen 2, h1.frozen 3, h1.lt, hwc, h1, h2, h3, rest⟩

theorem qlen_any (w : World) (base b : Nat) (F : Nat → Prop) (W Bn : List Itm) (p : Int) (h : QR w base b F W Bn p) : Calls Try.prog 14 #[.pointer (some ⟨b, 0, none⟩)] w fun e w' => e = .returned (.int .i64 W.length) ∧ w = w' := by
  obtain ⟨wA, wc, bA, bc, c0, c1, c2, c3, f1, f2, f3, hlt, hwc, H⟩ := h.open
  clear h
  go_enter Try.func14, Try.ntmps14
  go_wp2
  go_ret
  exact ⟨rfl, rfl⟩

theorem qpassed_any (w : World) (base b : Nat) (F : Nat → Prop) (W Bn : List Itm) (p : Int) (h : QR w base b F W Bn p) : Calls Try.prog 13 #[.pointer (some ⟨b, 0, none⟩)] w fun e w' => e = .returned (.int .i64 p) ∧ w = w' := by
  obtain ⟨wA, wc, bA, bc, c0, c1, c2, c3, f1, f2, f3, hlt, hwc, H⟩ := h.open
  clear h
  go_enter Try.func13, Try.ntmps13
  go_wp2
  go_ret
  exact ⟨rfl, rfl⟩

set_option maxHeartbeats 1000000 in
theorem clone_any (v : Value) (xs : List Itm) (n B : Nat) (w : World) (hs : Sl w B v 2 n (its xs)) (hn : n ≤ 8796093022207) (hB : B ≤ w.heap.size) :
    Calls Try.prog 24 #[v] w fun e w' => ∃ v', e = .returned v' ∧ Own w' w.heap.size iT 2 v' n (its xs) ∧ Below w.heap.size w w' := by
  obtain ⟨A, c, rfl, hnc⟩ := hs.form
  have HS := hide hs
  clear hs
  cases A with
  | none =>
    have hn0 : n = 0 := by
      rcases Nat.eq_zero_or_pos n with h | h
      · exact h
      · obtain ⟨_, _, _, h5⟩ := HS.out.inv
        obtain ⟨ad, had, _⟩ := h5 h
        cases had
    subst hn0
    have hx : its xs = [] := List.eq_nil_of_length_eq_zero (by simpa using HS.out.inv.1)
    have HX := hide hx
    clear hx
    have hnil : ∀ W : World, (binOp .eql 29 (.slice none 0 c) (.slice none 0 0)).run Try.prog W = .ok (.bool true) W := fun W => by rfl
    go_enter Try.func24, Try.ntmps24
    go_wp2
    go_ret
    exact ⟨.slice none 0 0, rfl, by rw [HX.out]; exact Own.nil _ _ _ _, Below.refl _ _⟩
  | some ad =>
    have hnil : ∀ W : World, (binOp .eql 29 (.slice (some ad) n c) (.slice none 0 0)).run Try.prog W = .ok (.bool false) W := fun W => by rfl
    go_enter Try.func24, Try.ntmps24
    go_wp2_with (at_builtin; refine wpList_app rfl tyIt (.tmp 5) (.tmp 6) rfl w.heap.size (n := 0) (m := n) (B := B) (xs := []) (news := its xs) rfl rfl ?c1 ?c2 (its_ok xs) (by omega) (by omega) (by simp) ?_)
    case c1 => exact Own.new w w.heap.size #[] (Nat.le_refl _) (by omega) rfl
    case c2 => exact HS.out.alloc hB _
    intro v1 w1 ha
    have HO : Hid (Own w1 w.heap.size iT 2 v1 n (its xs)) := by simpa [Hid] using ha.own
    have HB1 := hide (((Below.refl w.heap.size w).alloc (Nat.le_refl _) _).trans (ha.fr.below (by simp) (fun k hk h => by have := own_eq h; omega)))
    clear ha
    go_wp2_with fail
    go_ret
    exact ⟨v1, rfl, HO.out, HB1.out⟩

set_option maxHeartbeats 2000000 in
theorem push_any (v : Value) (xs : List Itm) (n B : Nat) (w : World) (base b : Nat) (F : Nat → Prop) (W Bn : List Itm) (p : Int) (h : QR w base b F W Bn p) (hs : Sl w B v 2 n (its xs)) (hx : xs.length = n) (hn : W.length + n ≤ 8796093022207) (hbase : base ≤ w.heap.size) :
    Calls Try.prog 10 #[.pointer (some ⟨b, 0, none⟩), v] w (QPost w base b F (.int .i64 ((W.length : Int) + n)) (W ++ xs) Bn p) := by
  obtain ⟨wA, wc, bA, bc, c0, c1, c2, c3, f1, f2, f3, hlt, hwc, H⟩ := h.open
  obtain ⟨A, c, rfl, hnc⟩ := hs.form
  have HS := hide hs
  have HX := hide hx
  clear h hs hx
  go_enter Try.func10, Try.ntmps10
  go_wp2_with (at_builtin; refine wpList_app rfl tyIt (.tmp 9) (.tmp 10) rfl base (n := W.length) (m := n) (B := B) (xs := its W) (news := its xs) rfl rfl H.out.2.1 HS.out (its_ok xs) (by omega) (by omega) hbase ?_)
  intro v1 w1 ha
  obtain ⟨hB, hW, hBn, hne, hFb, hFw, hFB, hF⟩ := H.out
  have hbw : ¬ (Value.slice wA W.length wc).ownBlock = some b := hW.ne hB (by decide)
  have hbb : ¬ (Value.slice bA Bn.length bc).ownBlock = some b := hBn.ne hB (by decide)
  have B1 : Blk w1 b qT #[FV, .slice wA W.length wc, .slice bA Bn.length bc, .int .i64 p] := ha.fr.blk hB hbw
  have O2 : Own w1 base iT 2 (.slice bA Bn.length bc) Bn.length (its Bn) := hBn.fr ha.fr (fun g hg hg' => hne g hg' hg)
  have hat : ∀ g, v1.ownBlock = some g → (Value.slice wA W.length wc).ownBlock = some g ∨ g = w.heap.size := by
    intro g hg
    rcases ha.at_ with h9 | h9
    · left; rw [← h9]; exact hg
    · right; rw [hg] at h9; injection h9
  have hbv : v1.ownBlock ≠ some b := by
    intro hg
    rcases hat b hg with h9 | h9
    · exact hbw h9
    · have := hB.lt; omega
  have g1 := B1.frozen 1
  have d1 := B1.cell 1
  have hlt1 := B1.lt
  simp only [List.getElem?_toArray, List.getElem?_cons_succ, List.getElem?_cons_zero] at d1
  obtain ⟨vA, vc, rfl, hvc⟩ := ha.own.sl.form
  have K := hide (And.intro ha (And.intro B1 (And.intro O2 (And.intro hat hbv))))
  clear ha B1 O2 hat hbv hB hW hBn hne hFb hFw hFB hF hbw hbb
  go_wp2_with fail
  go_ret
  obtain ⟨ha, B1, O2, hat, hbv⟩ := K.out
  obtain ⟨hB, hW, hBn, hne, hFb, hFw, hFB, hF⟩ := H.out
  have hlen : (W ++ xs).length = W.length + n := by rw [List.length_append, HX.out]
  refine ⟨foot b (.slice vA (W.length + n) vc) (.slice bA Bn.length bc), by simp, QR.make ?_ ?_ ?_ ?_ (hF b hFb).1, ?_, ?_⟩
  · exact B1.put 1 _
  · rw [hlen, its_app]
    exact ha.own.put hbv _
  · exact O2.put (hBn.ne hB (by decide)) _
  · intro g hg hg'
    rcases hat g hg with h9 | h9
    · exact hne g h9 hg'
    · have := hBn.lt g hg'; omega
  · exact (ha.fr.mono (fun k _ hk => hFw k hk)).put (.inl hFb) _
  · rintro k (rfl | hk | hk)
    · exact .inl hFb
    · rcases hat k hk with h9 | h9
      · exact .inl (hFw k h9)
      · exact .inr (by omega)
    · exact .inl (hFB k hk)

set_option maxHeartbeats 2000000 in
theorem settleq_no (w : World) (base b : Nat) (F : Nat → Prop) (W : List Itm) (p : Int) (h : QR w base b F W [] p) :
    Calls Try.prog 25 #[.pointer (some ⟨b, 0, none⟩)] w fun e w' => e = .returned (.tuple #[.slice none 0 0, .int .i64 171]) ∧ w = w' := by
  obtain ⟨wA, wc, bA, bc, c0, c1, c2, c3, f1, f2, f3, hlt, hwc, H⟩ := h.open
  clear h
  simp only [List.length_nil] at c2
  go_enter Try.func25, Try.ntmps25
  go_wp2
  go_ret2
  exact ⟨rfl, rfl⟩

/-- the bundle is handed on: its row is no part of the queue any more -/
def SPost (w : World) (base b : Nat) (F : Nat → Prop) (W Bn : List Itm) (p : Int) (e : Ending) (w' : World) : Prop :=
  ∃ bv F', e = .returned (.tuple #[bv, .int .i64 0]) ∧ QR w' base b F' W [] p ∧ Own w' base iT 2 bv Bn.length (its Bn) ∧ (∀ g, bv.ownBlock = some g → F g ∧ ¬ F' g) ∧ Fr F w w' ∧ (∀ k, F' k → F k)
set_option maxHeartbeats 2000000 in
theorem settleq_yes (w : World) (base b : Nat) (F : Nat → Prop) (W Bn : List Itm) (p : Int) (h : QR w base b F W Bn p) (hp : 0 < Bn.length) :
    Calls Try.prog 25 #[.pointer (some ⟨b, 0, none⟩)] w (SPost w base b F W Bn p) := by
  obtain ⟨wA, wc, bA, bc, c0, c1, c2, c3, f1, f2, f3, hlt, hwc, H⟩ := h.open
  clear h
  go_enter Try.func25, Try.ntmps25
  have hp0 : ((Bn.length : Int) == 0) = false := beq_eq_false_iff_ne.2 (by omega)
  go_wp2
  go_ret2
  obtain ⟨hB, hW, hBn, hne, hFb, hFw, hFB, hF⟩ := H.out
  have hbw := hW.ne hB (by decide)
  have hbb := hBn.ne hB (by decide)
  refine ⟨.slice bA Bn.length bc, foot b (.slice wA W.length wc) (.slice none 0 0), rfl, QR.make (hB.put 2 _) (hW.put hbw _) (Own.nil _ _ _ _) (by simp [Value.ownBlock]) (hF b hFb).1, hBn.put hbb _, ?_, (Fr.refl _ _).put (.inl hFb) _, ?_⟩
  · intro g hg
    refine ⟨hFB g hg, ?_⟩
    rintro (rfl | h9 | h9)
    · exact hbb hg
    · exact hne g h9 hg
    · simp [Value.ownBlock] at h9
  · rintro k (rfl | h9 | h9)
    · exact hFb
    · exact hFw k h9
    · simp [Value.ownBlock] at h9

set_option maxHeartbeats 2000000 in
theorem ack_no (w : World) (base b : Nat) (F : Nat → Prop) (W : List Itm) (p : Int) (h : QR w base b F W [] p) (hp : 0 ≤ p) (hp2 : p ≤ 4611686018427387904) :
    Calls Try.prog 17 #[.pointer (some ⟨b, 0, none⟩)] w (QPost w base b F (.tuple #[.int .i64 0, .int .i64 171]) W [] p) := by
  obtain ⟨wA, wc, bA, bc, c0, c1, c2, c3, f1, f2, f3, hlt, hwc, H⟩ := h.open
  have HQ := hide h
  clear h
  go_enter Try.func17, Try.ntmps17
  go_wp2_with fail
  refine (settleq_no _ base b F W p HQ.out).mono ?_
  rintro e w1 ⟨rfl, rfl⟩
  go_wp2_with fail
  go_ret2
  obtain ⟨hB, hW, hBn, hne, hFb, hFw, hFB, hF⟩ := H.out
  refine ⟨foot b (.slice wA W.length wc) (.slice bA 0 bc), rfl, QR.make ?_ (hW.put (hW.ne hB (by decide)) _) (hBn.put (hBn.ne hB (by decide)) _) hne (hF b hFb).1, (Fr.refl _ _).put (.inl hFb) _, ?_⟩
  · simpa using hB.put 3 _
  · rintro k (rfl | h9 | h9)
    · exact .inl hFb
    · exact .inl (hFw k h9)
    · exact .inl (hFB k h9)

set_option maxHeartbeats 2000000 in
theorem ack_yes (w : World) (base b : Nat) (F : Nat → Prop) (W Bn : List Itm) (p : Int) (h : QR w base b F W Bn p) (hb : 0 < Bn.length) (hb2 : Bn.length ≤ 4611686018427387904) (hp : 0 ≤ p) (hp2 : p ≤ 2305843009213693952) :
    Calls Try.prog 17 #[.pointer (some ⟨b, 0, none⟩)] w (QPost w base b F (.tuple #[.int .i64 Bn.length, .int .i64 0]) W [] (p + Bn.length)) := by
  have HQ := hide h
  clear h
  go_enter Try.func17, Try.ntmps17
  go_wp2_with fail
  refine (settleq_yes _ base b F W Bn p HQ.out hb).mono ?_
  rintro e w1 ⟨bv, F1, rfl, hq, ho, hd, hf, hsub⟩
  obtain ⟨bA, bc, rfl, hbc⟩ := ho.sl.form
  obtain ⟨wA, wc, bA', bc', c0, c1, c2, c3, f1, f2, f3, hlt, hwc, H⟩ := hq.open
  have HF := hide (And.intro hf hsub)
  clear hq ho hd hf hsub
  go_wp2_with fail
  go_ret2
  obtain ⟨hB, hW, hBn, hne, hFb, hFw, hFB, hF⟩ := H.out
  refine ⟨foot b (.slice wA W.length wc) (.slice bA' 0 bc'), rfl, QR.make ?_ (hW.put (hW.ne hB (by decide)) _) (hBn.put (hBn.ne hB (by decide)) _) hne (hF b hFb).1, HF.out.1.put (.inl (HF.out.2 b hFb)) _, ?_⟩
  · simpa using hB.put 3 _
  · rintro k (rfl | h9 | h9)
    · exact .inl (HF.out.2 _ hFb)
    · exact .inl (HF.out.2 _ (hFw k h9))
    · exact .inl (HF.out.2 _ (hFB k h9))

set_option maxHeartbeats 2000000 in
theorem nack_no (w : World) (base b : Nat) (F : Nat → Prop) (W : List Itm) (p : Int) (h : QR w base b F W [] p) (hn : W.length ≤ 8796093022207) (hbase : base ≤ w.heap.size) :
    Calls Try.prog 16 #[.pointer (some ⟨b, 0, none⟩)] w (QPost w base b F (.tuple #[.int .i64 0, .int .i64 171]) W [] p) := by
  have HQ := hide h
  obtain ⟨wA, wc, bA, bc, c0, c1, c2, c3, f1, f2, f3, hlt, hwc, H⟩ := h.open
  clear h
  go_enter Try.func16, Try.ntmps16
  go_wp2_with fail
  refine (settleq_no _ base b F W p HQ.out).mono ?_
  rintro e w1 ⟨rfl, rfl⟩
  go_wp2_with (at_builtin; refine wpList_app rfl tyIt (.tmp 12) (.tmp 16) rfl base (n := 0) (m := W.length) (B := w.heap.size) (xs := []) (news := its W) rfl rfl (Own.nil _ _ _ _) H.out.2.1.sl (its_ok W) (by omega) (by omega) hbase ?_)
  intro v1 w1 ha
  obtain ⟨hB, hW, hBn, hne, hFb, hFw, hFB, hF⟩ := H.out
  have hbb : ¬ (Value.slice bA 0 bc).ownBlock = some b := hBn.ne hB (by decide)
  have hnone : ∀ k, ¬ (Value.slice none 0 0).ownBlock = some k := by simp [Value.ownBlock]
  have B1 : Blk w1 b qT #[FV, .slice wA W.length wc, .slice bA 0 bc, .int .i64 p] := ha.fr.blk hB (hnone b)
  have O2 : Own w1 base iT 2 (.slice bA 0 bc) 0 [] := hBn.fr ha.fr (fun g hg => hnone g)
  have hat : ∀ g, v1.ownBlock = some g → g = w.heap.size := by
    intro g hg
    rcases ha.at_ with h9 | h9
    · rw [hg] at h9; exact absurd h9.symm (hnone g)
    · rw [hg] at h9; injection h9
  have hbv : v1.ownBlock ≠ some b := by
    intro hg
    have := hat b hg
    have := hB.lt; omega
  have g1 := B1.frozen 1
  have d1 := B1.cell 1
  have hlt1 := B1.lt
  simp only [List.getElem?_toArray, List.getElem?_cons_succ, List.getElem?_cons_zero] at d1
  obtain ⟨vA, vc, rfl, hvc⟩ := ha.own.sl.form
  have K := hide (And.intro ha (And.intro B1 (And.intro O2 (And.intro hat hbv))))
  clear ha B1 O2 hat hbv hB hW hBn hne hFb hFw hFB hF hbb hnone
  go_wp2_with fail
  go_ret2
  obtain ⟨ha, B1, O2, hat, hbv⟩ := K.out
  obtain ⟨hB, hW, hBn, hne, hFb, hFw, hFB, hF⟩ := H.out
  refine ⟨foot b (.slice vA W.length vc) (.slice bA 0 bc), rfl, QR.make ?_ ?_ ?_ ?_ (hF b hFb).1, ?_, ?_⟩
  · exact B1.put 1 _
  · exact (by simpa using ha.own : Own w1 base iT 2 (.slice vA W.length vc) W.length (its W)).put (by simpa using hbv) _
  · exact O2.put (hBn.ne hB (by decide)) _
  · intro g hg hg'
    have := hBn.lt g hg'
    have := hat g hg; omega
  · exact (ha.fr.mono (fun k _ hk => by simp [Value.ownBlock] at hk)).put (.inl hFb) _
  · rintro k (rfl | hk | hk)
    · exact .inl hFb
    · have := hat k hk
      exact .inr (by omega)
    · exact .inl (hFB k hk)

set_option maxHeartbeats 2000000 in
theorem nack_yes (w : World) (base b : Nat) (F : Nat → Prop) (W Bn : List Itm) (p : Int) (h : QR w base b F W Bn p) (hp : 0 < Bn.length) (hn : Bn.length + W.length ≤ 8796093022207) (hbase : base ≤ w.heap.size) :
    Calls Try.prog 16 #[.pointer (some ⟨b, 0, none⟩)] w (QPost w base b F (.tuple #[.int .i64 Bn.length, .int .i64 0]) (Bn ++ W) [] p) := by
  have HQ := hide h
  clear h
  go_enter Try.func16, Try.ntmps16
  go_wp2_with fail
  refine (settleq_yes _ base b F W Bn p HQ.out hp).mono ?_
  rintro e w1 ⟨bv, F1, rfl, hq, ho, hd, hf, hsub⟩
  obtain ⟨bA, bc, rfl, hbc⟩ := ho.sl.form
  obtain ⟨wA, wc, bA', bc', c0, c1, c2, c3, f1, f2, f3, hlt, hwc, H⟩ := hq.open
  have HO := hide (And.intro ho (And.intro hd (And.intro hf hsub)))
  have hb1 : base ≤ w1.heap.size := Nat.le_trans hbase hf.size
  clear hq ho hd hf hsub
  go_wp2_with (at_builtin; refine wpList_app rfl tyIt (.tmp 12) (.tmp 16) rfl base (n := Bn.length) (m := W.length) (B := w1.heap.size) (xs := its Bn) (news := its W) rfl rfl HO.out.1 H.out.2.1.sl (its_ok W) (by omega) (by omega) hb1 ?_)
  intro v2 w2 ha
  obtain ⟨hB, hW, hBn, hne, hFb, hFw, hFB, hF⟩ := H.out
  obtain ⟨ho, hd, hf, hsub⟩ := HO.out
  have hbb : ¬ (Value.slice bA Bn.length bc).ownBlock = some b := ho.ne hB (by decide)
  have B1 : Blk w2 b qT #[FV, .slice wA W.length wc, .slice bA' 0 bc', .int .i64 p] := ha.fr.blk hB hbb
  have O2 : Own w2 base iT 2 (.slice bA' 0 bc') 0 [] := hBn.fr ha.fr (fun g hg h9 => (hd g h9).2 (hFB g hg))
  have hat : ∀ g, v2.ownBlock = some g → (Value.slice bA Bn.length bc).ownBlock = some g ∨ g = w1.heap.size := by
    intro g hg
    rcases ha.at_ with h9 | h9
    · left; rw [← h9]; exact hg
    · right; rw [hg] at h9; injection h9
  have hbv : v2.ownBlock ≠ some b := by
    intro hg
    rcases hat b hg with h9 | h9
    · exact hbb h9
    · have := hB.lt; omega
  have g1 := B1.frozen 1
  have d1 := B1.cell 1
  have hlt1 := B1.lt
  simp only [List.getElem?_toArray, List.getElem?_cons_succ, List.getElem?_cons_zero] at d1
  obtain ⟨vA, vc, rfl, hvc⟩ := ha.own.sl.form
  have K := hide (And.intro ha (And.intro B1 (And.intro O2 (And.intro hat hbv))))
  clear ha B1 O2 hat hbv hB hW hBn hne hFb hFw hFB hF hbb ho hd hf hsub
  go_wp2_with fail
  go_ret2
  obtain ⟨ha, B1, O2, hat, hbv⟩ := K.out
  obtain ⟨hB, hW, hBn, hne, hFb, hFw, hFB, hF⟩ := H.out
  obtain ⟨ho, hd, hf, hsub⟩ := HO.out
  refine ⟨foot b (.slice vA (Bn.length + W.length) vc) (.slice bA' 0 bc'), rfl, QR.make ?_ ?_ ?_ ?_ (hF b hFb).1, ?_, ?_⟩
  · exact B1.put 1 _
  · rw [List.length_append, its_app]
    exact ha.own.put hbv _
  · exact O2.put (hBn.ne hB (by decide)) _
  · intro g hg hg'
    rcases hat g hg with h9 | h9
    · exact (hd g h9).2 (hFB g hg')
    · have := hBn.lt g hg'; omega
  · exact (hf.trans ha.fr (fun k _ hk => (hd k hk).1)).put (.inl (hsub b hFb)) _
  · rintro k (rfl | hk | hk)
    · exact .inl (hsub _ hFb)
    · rcases hat k hk with h9 | h9
      · exact .inl (hd k h9).1
      · have := hf.size
        exact .inr (by omega)
    · exact .inl (hsub _ (hFB k hk))

end Go.Proofs.Ytlaijnabdlidiaa
