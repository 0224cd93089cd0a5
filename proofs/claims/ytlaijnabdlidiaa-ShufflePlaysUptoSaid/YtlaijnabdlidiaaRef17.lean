/- The reference's queue of layer 17: Push, Take, Settle, Oldest. -/
import Derived.Test.YtlaijnabdlidiaaLaw17b
import Derived.BigQuiet
namespace Go.Proofs.Ytlaijnabdlidiaa
open Go.RowKit
set_option linter.unusedVariables false
set_option linter.unusedSimpArgs false

abbrev xqT : Nat := 50
/-- At block b lies the reference's queue: W waits, Bn is the bundle, p have passed; it lies in the blocks of G. -/
def XR (w : World) (base b : Nat) (G : Nat → Prop) (W Bn : List Itm) (p : Int) : Prop :=
  ∃ wv bv, Blk w b xqT #[wv, bv, .int .i64 p] ∧ Own w base iT 2 wv W.length (its W) ∧ Own w base iT 2 bv Bn.length (its Bn) ∧
    G b ∧ (∀ g, wv.ownBlock = some g → G g) ∧ (∀ g, bv.ownBlock = some g → G g) ∧ (∀ k, G k → base ≤ k ∧ k < w.heap.size)
section
variable {w w' : World} {base b : Nat} {G : Nat → Prop} {W Bn : List Itm} {p : Int}
theorem XR.inG (h : XR w base b G W Bn p) : ∀ k, G k → base ≤ k ∧ k < w.heap.size := by
  obtain ⟨wv, bv, h1, h2, h3, h4, h5, h6, h7⟩ := h
  exact h7
theorem XR.to (h : XR w base b G W Bn p) (hz : w.heap.size ≤ w'.heap.size) (he : ∀ k, G k → w'.heap[k]? = w.heap[k]?) : XR w' base b G W Bn p := by
  obtain ⟨wv, bv, h1, h2, h3, h4, h5, h6, h7⟩ := h
  exact ⟨wv, bv, h1.to (he _ h4), h2.to (fun g hg => he _ (h5 g hg)), h3.to (fun g hg => he _ (h6 g hg)), h4, h5, h6, fun k hk => ⟨(h7 k hk).1, Nat.lt_of_lt_of_le (h7 k hk).2 hz⟩⟩
theorem XR.fr {S : Nat → Prop} (h : XR w base b G W Bn p) (hf : Fr S w w') (hs : ∀ k, G k → ¬ S k) : XR w' base b G W Bn p := h.to hf.size (fun k hk => hf.block k (h.inG k hk).2 (hs k hk))
theorem XR.below (h : XR w base b G W Bn p) (hb : Below w.heap.size w w') : XR w' base b G W Bn p := h.to hb.size (fun k hk => hb.block k (h.inG k hk).2)
theorem XR.alloc (h : XR w base b G W Bn p) (o : Obj) : XR (w.alloc o) base b G W Bn p := h.below ((Below.refl _ _).alloc (Nat.le_refl _) o)
theorem XR.drewN (h : XR w base b G W Bn p) (n : Nat) : XR (w.drewN n) base b G W Bn p := h
theorem XR.make {wv bv : Value} (h1 : Blk w b xqT #[wv, bv, .int .i64 p]) (h2 : Own w base iT 2 wv W.length (its W)) (h3 : Own w base iT 2 bv Bn.length (its Bn)) (hb : base ≤ b) : XR w base b (foot b wv bv) W Bn p := by
  refine ⟨wv, bv, h1, h2, h3, .inl rfl, fun g hg => .inr (.inl hg), fun g hg => .inr (.inr hg), ?_⟩
  rintro k (rfl | hk | hk)
  · exact ⟨hb, h1.lt⟩
  · exact h2.lt k hk
  · exact h3.lt k hk
theorem XR.open (h : XR w base b G W Bn p) : ∃ wA wc bA bc, w.cell? ⟨b, 0, none⟩ = some (.slice wA W.length wc) ∧ w.cell? ⟨b, 1, none⟩ = some (.slice bA Bn.length bc) ∧ w.cell? ⟨b, 2, none⟩ = some (.int .i64 p) ∧
    w.frozen? ⟨b, 0, none⟩ = false ∧ w.frozen? ⟨b, 1, none⟩ = false ∧ w.frozen? ⟨b, 2, none⟩ = false ∧ b < w.heap.size ∧ base ≤ b ∧
    Hid (Blk w b xqT #[.slice wA W.length wc, .slice bA Bn.length bc, .int .i64 p] ∧ Own w base iT 2 (.slice wA W.length wc) W.length (its W) ∧ Own w base iT 2 (.slice bA Bn.length bc) Bn.length (its Bn)) ∧
    Hid (G b ∧ (∀ g, (Value.slice wA W.length wc).ownBlock = some g → G g) ∧ (∀ g, (Value.slice bA Bn.length bc).ownBlock = some g → G g)) := by
  obtain ⟨wv, bv, h1, h2, h3, h4, h5, h6, h7⟩ := h
  obtain ⟨wA, wc, rfl, _⟩ := h2.sl.form
  obtain ⟨bA, bc, rfl, _⟩ := h3.sl.form
  exact ⟨wA, wc, bA, bc, h1.cell 0, h1.cell 1, h1.cell 2, h1.frozen 0, h1.frozen 1, h1.frozen 2, h1.lt, (h7 b h4).1, ⟨h1, h2, h3⟩, h4, h5, h6⟩
end
/-- what a call leaves: the queue; of the blocks that were there only its own is another -/
def XPost (w : World) (base b : Nat) (G : Nat → Prop) (r : Value) (W Bn : List Itm) (p : Int) (e : Ending) (w' : World) : Prop :=
  ∃ G', e = .returned r ∧ XR w' base b G' W Bn p ∧ Fr (fun k => k = b) w w' ∧ (∀ k, G' k → G k ∨ w.heap.size ≤ k)

set_option maxHeartbeats 4000000 in
theorem xpush_any (v : Value) (xs : List Itm) (n B : Nat) (w : World) (base b : Nat) (G : Nat → Prop) (W Bn : List Itm) (p : Int) (h : XR w base b G W Bn p) (hs : Sl w B v 2 n (its xs)) (hx : xs.length = n) (hn : W.length + n ≤ 8796093022207) (hB : B ≤ w.heap.size) :
    Calls Try.prog 19 #[.pointer (some ⟨b, 0, none⟩), v] w (XPost w base b G (.int .i64 ((W.length : Int) + n)) (W ++ xs) Bn p) := by
  obtain ⟨wA, wc, bA, bc, c0, c1, c2, f0, f1, f2, hlt, hbb, H, HG⟩ := h.open
  obtain ⟨A, c, rfl, hnc⟩ := hs.form
  have HS := hide hs
  have HX := hide hx
  have hbase : base ≤ w.heap.size := by omega
  clear h hs hx
  go_enter Try.func19, Try.ntmps19
  have HO0 : Hid (Own w w.heap.size iT 2 (.slice none 0 0) 0 (its [])) := Own.nil _ _ _ _
  go_wp2_with (at_builtin; refine wpList_app rfl tyIt (.tmp 6) (.tmp 10) rfl w.heap.size (n := 0) (m := W.length) (B := w.heap.size) (xs := its []) (news := its W) rfl rfl HO0.out H.out.2.1.sl (its_ok W) (by omega) (by omega) (Nat.le_refl _) ?_)
  intro v1 w1 ha
  have HO1 : Hid (Own w1 w.heap.size iT 2 v1 W.length (its W)) := by have h9 := ha.own; simpa [Hid, its] using h9
  have HB1 : Hid (Below w.heap.size w w1) := ha.fr.below (Nat.le_refl _) (fun k hk h => by simp [Value.ownBlock] at h)
  have HN1 : Hid (∀ g, v1.ownBlock = some g → w.heap.size ≤ g) := by
    intro g hg
    rcases ha.at_ with h9 | h9
    · rw [h9] at hg; cases hg
    · rw [h9] at hg; injection hg with hg; omega
  have hz1 := HB1.out.size
  clear ha
  go_wp2_with (at_builtin; refine wpList_app rfl tyIt (.tmp 11) (.tmp 12) rfl w.heap.size (n := W.length) (m := n) (B := B) (xs := its W) (news := its xs) rfl rfl HO1.out (HS.out.below (HB1.out.mono hB)) (its_ok xs) (by omega) (by omega) (by omega) ?_)
  intro v2 w2 ha
  have HB2 : Hid (Below w.heap.size w w2) := HB1.out.trans (ha.fr.below hz1 (fun k hk h => by have := HN1.out k h; omega))
  have HO2 : Hid (Own w2 w.heap.size iT 2 v2 (W.length + n) (its (W ++ xs))) := by rw [its_app]; exact ha.own
  obtain ⟨vA, vc, rfl, hvc⟩ := HO2.out.sl.form
  have B2 := hide (H.out.1.below HB2.out hlt)
  have O2 := hide (H.out.2.2.below HB2.out)
  have d0 := B2.out.cell 0
  have g0 := B2.out.frozen 0
  have hlt2 := B2.out.lt
  simp only [List.getElem?_toArray, List.getElem?_cons_zero] at d0
  clear ha c0 c1 c2 f0 f1 f2
  go_wp2_with fail
  go_ret
  have hlen : (W ++ xs).length = W.length + n := by rw [List.length_append, HX.out]
  refine ⟨foot b (.slice vA (W.length + n) vc) (.slice bA Bn.length bc), by simp, XR.make ?_ ?_ ?_ hbb, ?_, ?_⟩
  · exact B2.out.put 0 _
  · rw [hlen]
    exact (HO2.out.put (HO2.out.ne B2.out (by decide)) _).lower hbase
  · exact O2.out.put (O2.out.ne B2.out (by decide)) _
  · exact (Fr.of_below HB2.out : Fr (fun k => k = b) w w2).put1 0 _
  · rintro k (rfl | hk | hk)
    · exact .inl HG.out.1
    · exact .inr (HO2.out.lt k hk).1
    · exact .inl (HG.out.2.2 k hk)

theorem xtake_busy (w : World) (base b : Nat) (G : Nat → Prop) (W Bn : List Itm) (p n : Int) (h : XR w base b G W Bn p) (hp : 0 < Bn.length) :
    Calls Try.prog 20 #[.pointer (some ⟨b, 0, none⟩), .int .i64 n] w fun e w' => e = .returned (.tuple #[.slice none 0 0, .int .i64 171]) ∧ w' = w := by
  obtain ⟨wA, wc, bA, bc, c0, c1, c2, f0, f1, f2, hlt, hbb, H, HG⟩ := h.open
  clear h
  go_enter Try.func20, Try.ntmps20
  go_wp2_with fail
  go_ret2
  exact ⟨rfl, rfl⟩
theorem xtake_none (w : World) (base b : Nat) (G : Nat → Prop) (W : List Itm) (p n : Int) (h : XR w base b G W [] p) (hn : n < 1 ∨ W.length = 0) :
    Calls Try.prog 20 #[.pointer (some ⟨b, 0, none⟩), .int .i64 n] w fun e w' => e = .returned (.tuple #[.slice none 0 0, .int .i64 170]) ∧ w' = w := by
  obtain ⟨wA, wc, bA, bc, c0, c1, c2, f0, f1, f2, hlt, hbb, H, HG⟩ := h.open
  clear h
  simp only [List.length_nil] at c1
  have hc : n < 1 ∨ (¬ n < 1 ∧ W.length = 0) := by omega
  clear hn
  rcases hc with h1 | ⟨h1, h2⟩
  · go_enter Try.func20, Try.ntmps20
    go_wp2_with fail
    go_ret2
    exact ⟨rfl, rfl⟩
  · rw [h2] at c0
    go_enter Try.func20, Try.ntmps20
    go_wp2_with fail
    go_ret2
    exact ⟨rfl, rfl⟩

theorem xsettle_no (w : World) (base b : Nat) (G : Nat → Prop) (W : List Itm) (p : Int) (back : Bool) (h : XR w base b G W [] p) :
    Calls Try.prog 21 #[.pointer (some ⟨b, 0, none⟩), .bool back] w fun e w' => e = .returned (.tuple #[.int .i64 0, .bool false]) ∧ w' = w := by
  obtain ⟨wA, wc, bA, bc, c0, c1, c2, f0, f1, f2, hlt, hbb, H, HG⟩ := h.open
  clear h
  simp only [List.length_nil] at c1
  go_enter Try.func21, Try.ntmps21
  go_wp2_with fail
  go_ret2
  exact ⟨rfl, rfl⟩

theorem xsettle_ack (w : World) (base b : Nat) (G : Nat → Prop) (W Bn : List Itm) (p : Int) (h : XR w base b G W Bn p) (hp : 0 < Bn.length) (hb2 : Bn.length ≤ 4611686018427387904) (hp0 : 0 ≤ p) (hp2 : p ≤ 2305843009213693952) :
    Calls Try.prog 21 #[.pointer (some ⟨b, 0, none⟩), .bool false] w (XPost w base b G (.tuple #[.int .i64 Bn.length, .bool true]) W [] (p + Bn.length)) := by
  obtain ⟨wA, wc, bA, bc, c0, c1, c2, f0, f1, f2, hlt, hbb, H, HG⟩ := h.open
  clear h
  have hne : ¬ Bn.length = 0 := by omega
  go_enter Try.func21, Try.ntmps21
  go_wp2_with fail
  go_ret2
  have B2 := (H.out.1.put 2 (.int .i64 (p + Bn.length))).put 1 (.slice none 0 0)
  refine ⟨foot b (.slice wA W.length wc) (.slice none 0 0), rfl, XR.make B2 ?_ (Own.nil _ _ _ _) hbb, ((Fr.refl _ w).put1 2 _).put1 1 _, ?_⟩
  have hnb : (Value.slice wA W.length wc).ownBlock ≠ some b := H.out.2.1.ne H.out.1 (by decide)
  · exact (H.out.2.1.put (p := ⟨b, 2, none⟩) hnb (.int .i64 (p + Bn.length))).put (p := ⟨b, 1, none⟩) hnb (.slice none 0 0)
  · rintro k (rfl | hk | hk)
    · exact .inl HG.out.1
    · exact .inl (HG.out.2.1 k hk)
    · cases hk

set_option maxHeartbeats 4000000 in
theorem xsettle_nack (w : World) (base b : Nat) (G : Nat → Prop) (W Bn : List Itm) (p : Int) (h : XR w base b G W Bn p) (hp : 0 < Bn.length) (hn : Bn.length + W.length ≤ 8796093022207) :
    Calls Try.prog 21 #[.pointer (some ⟨b, 0, none⟩), .bool true] w (XPost w base b G (.tuple #[.int .i64 Bn.length, .bool true]) (Bn ++ W) [] p) := by
  obtain ⟨wA, wc, bA, bc, c0, c1, c2, f0, f1, f2, hlt, hbb, H, HG⟩ := h.open
  have hbase : base ≤ w.heap.size := by omega
  clear h
  have hne : ¬ Bn.length = 0 := by omega
  go_enter Try.func21, Try.ntmps21
  go_wp2_with fail
  go_region_law (first
    | (refine step_app rfl tyIt (.tmp 17) (.tmp 21) rfl w.heap.size (n := 0) (m := Bn.length) (B := w.heap.size) (xs := its []) (news := its Bn) rfl rfl (Own.nil _ _ _ _) (by exact H.out.2.2.sl) (its_ok Bn) (by omega) (by omega) (Nat.le_refl _) ?_
       intro v5 w5 ha5
       have hb5 : Below w.heap.size w w5 := ((Below.refl w.heap.size w).drewN 1).trans (ha5.fr.below (B := w.heap.size) (Nat.le_refl _) (fun k hk h => by have h' : (Value.slice none 0 0).ownBlock = some k := h; cases h'))
       have hk5 := H.out.1.below hb5 hlt
       have k0 : w5.cell? ⟨b, 0, none⟩ = some (.slice wA W.length wc) := hk5.cell 0
       have klt := hk5.lt)
    | (refine step_app rfl tyIt (.tmp 22) (.tmp 26) rfl w.heap.size (n := 0 + Bn.length) (m := W.length) (B := w.heap.size) (xs := its [] ++ its Bn) (news := its W) rfl rfl ha5.own (by exact (H.out.2.1.sl.below hb5)) (its_ok W) (by omega) (by omega) (by have := hb5.size; omega) ?_
       intro v6 w6 ha6
       have hn5 : ∀ g, v5.ownBlock = some g → w.heap.size ≤ g := by
         intro g hg
         rcases ha5.at_ with h9 | h9
         · have h9' : v5.ownBlock = none := h9
           rw [h9'] at hg
           cases hg
         · have h9' : v5.ownBlock = some w.heap.size := h9
           rw [h9'] at hg
           injection hg with hg
           omega
       have hb6 : Below w.heap.size w w6 := hb5.trans (ha6.fr.below hb5.size (fun k hk h => by have := hn5 k h; omega))
       have hk6 := H.out.1.below hb6 hlt
       have q6 := hk6.frozen 0
       have r6 : w6.cell? ⟨b, 0, none⟩ = some (.slice wA W.length wc) := hk6.cell 0
       have klt6 := hk6.lt
       obtain ⟨vA, vc, rfl, hvc⟩ := ha6.own.sl.form))
  all_goals
    have HO6 : Hid (Own w6 w.heap.size iT 2 (.slice vA (Bn.length + W.length) vc) (Bn ++ W).length (its (Bn ++ W))) := by
      have h9 := ha6.own
      rw [Nat.zero_add] at h9
      rw [Hid, List.length_append, its_app]
      exact h9
    have HB6 := hide hb6
    have B7 := hk6.put 0 (.slice vA (Bn.length + W.length) vc)
    have HB7 := hide B7
    have hnb : (Value.slice vA (Bn.length + W.length) vc).ownBlock ≠ some b := HO6.out.ne hk6 (by decide)
    have HO7 := hide (HO6.out.put (p := ⟨b, 0, none⟩) hnb (.slice vA (Bn.length + W.length) vc))
    have HF7 : Hid (Fr (fun k => k = b) w (w6.setCell ⟨b, 0, none⟩ (.slice vA (Bn.length + W.length) vc))) := (Fr.of_below HB6.out : Fr (fun k => k = b) w w6).put1 0 _
    clear ha5 ha6 hb5 hk5 k0 klt hn5 hb6 hk6 q6 r6 klt6 B7
    generalize w6.setCell ⟨b, 0, none⟩ (.slice vA (Bn.length + W.length) vc) = w7 at *
    have c9 : w7.cell? ⟨b, 1, none⟩ = some (.slice bA Bn.length bc) := HB7.out.cell 1
    have q9 := HB7.out.frozen 1
    have hl9 := HB7.out.lt
    go_wp2_with fail
    go_ret2
    refine ⟨foot b (.slice vA (Bn.length + W.length) vc) (.slice none 0 0), rfl, XR.make (HB7.out.put 1 (.slice none 0 0)) ((HO7.out.put (p := ⟨b, 1, none⟩) hnb _).lower hbase) (Own.nil _ _ _ _) hbb, HF7.out.put1 1 _, ?_⟩
    rintro k (rfl | hk | hk)
    · exact .inl HG.out.1
    · exact .inr (HO7.out.lt k hk).1
    · cases hk

end Go.Proofs.Ytlaijnabdlidiaa
