/- container/heap: Push, Pop, Remove. -/
import Derived.Test.YtogelnljkdcajaaHeap3
namespace Go.Proofs.Ytogelnljkdcajaa
open Go.RowKit Go.Sort
set_option linter.unusedVariables false
set_option linter.unusedSimpArgs false

theorem HeapN.min {f : Nat → TV} {n : Nat} (h : HeapN f n) : ∀ i, i < n → leT (f 0) (f i) := by
  intro i
  induction i using Nat.strongRecOn with
  | _ i ih =>
    intro hi
    by_cases h0 : i = 0
    · subst h0; exact leT_refl _
    · exact leT_trans (ih ((i - 1) / 2) (by omega) (by omega)) (h i (by omega) hi)
/-- the blocks that a heap's calls write -/
def HBk (tb mb : Nat) (lv : Value) : Nat → Prop := fun j => j = tb ∨ j = mb ∨ lv.ownBlock = some j
structure HpT (w : World) (base tb mb : Nat) (lv : Value) (L : List TV) : Prop where
  st : StT w base tb mb lv L
  hp : HeapN (gt L) L.length
  ln : L.length ≤ 100000
theorem HpT.below {w w' : World} {base tb mb : Nat} {lv : Value} {L : List TV} (h : HpT w base tb mb lv L) (hb : Below w.heap.size w w') : HpT w' base tb mb lv L := ⟨h.st.below hb, h.hp, h.ln⟩
def NewB (w : World) (lv lv' : Value) : Prop := ∀ g, lv'.ownBlock = some g → lv.ownBlock = some g ∨ w.heap.size ≤ g
theorem split_last {L : List TV} (h : 0 < L.length) : ∃ L0 x, L = L0 ++ [x] ∧ L0.length = L.length - 1 ∧ x = gt L (L.length - 1) := by
  refine ⟨L.dropLast, L.getLast (by rintro rfl; simp at h), (List.dropLast_concat_getLast _).symm, by simp, ?_⟩
  rw [List.getLast_eq_getElem, gt_of (by omega)]

theorem hm_len (tb : Nat) (W : World) : (method 249 65 (.pointer (some ⟨tb, 0, none⟩)) "Len").run Try.prog W = .ok (91, .pointer (some ⟨tb, 0, none⟩)) W := by kernel_rfl
theorem hm_swap (tb : Nat) (W : World) : (method 249 65 (.pointer (some ⟨tb, 0, none⟩)) "Swap").run Try.prog W = .ok (95, .pointer (some ⟨tb, 0, none⟩)) W := by kernel_rfl
theorem hm_push (tb : Nat) (W : World) : (method 249 65 (.pointer (some ⟨tb, 0, none⟩)) "Push").run Try.prog W = .ok (94, .pointer (some ⟨tb, 0, none⟩)) W := by kernel_rfl
theorem hm_pop (tb : Nat) (W : World) : (method 249 65 (.pointer (some ⟨tb, 0, none⟩)) "Pop").run Try.prog W = .ok (93, .pointer (some ⟨tb, 0, none⟩)) W := by kernel_rfl
theorem stlen {w : World} {base tb mb : Nat} {lv : Value} {L : List TV} (h : StT w base tb mb lv L) :
    Calls Try.prog 91 #[.pointer (some ⟨tb, 0, none⟩)] w fun e w' => e = .returned (.int .i64 L.length) ∧ w' = w := by
  obtain ⟨M, h1, h2⟩ := h
  exact tlen_any w base tb mb lv L M h1
theorem stpush {w : World} {base tb mb : Nat} {lv : Value} {L : List TV} {x : TV} (h : StT w base tb mb lv L) (hx : KeyO w base x) (hL : L.length ≤ 1000000) (hbase : base ≤ w.heap.size) (hnm : x.nm ∉ L.map TV.nm) :
    Calls Try.prog 94 #[.pointer (some ⟨tb, 0, none⟩), .iface tmT (.agg x.cells.toArray)] w fun e w' => e = .returned (.tuple #[]) ∧
      ∃ lv', StT w' base tb mb lv' (L ++ [x]) ∧ Fr (HBk tb mb lv) w w' ∧ NewB w lv lv' := by
  obtain ⟨M, h1, h2⟩ := h
  exact (tpush_any w base tb mb lv L M x h1 hx hL hbase).mono fun e w' ⟨he, lv', ht, hf, hn⟩ => ⟨he, lv', ⟨_, ht, h2.push x hnm⟩, hf, hn⟩
theorem MapR.nd {α β : Type} {K : α → Value} {V : β → Value} {w : World} {b : Nat} {L : List (α × β)} (h : MapR w b K V L) : (L.map (·.1)).Nodup := by
  obtain ⟨_, _, _, _, h, _⟩ := h
  exact h
theorem stpop {w : World} {base tb mb : Nat} {lv : Value} {L : List TV} {x : TV} (h : StT w base tb mb lv (L ++ [x])) (hL : L.length ≤ 1000000) :
    Calls Try.prog 93 #[.pointer (some ⟨tb, 0, none⟩)] w fun e w' => e = .returned (.iface tmT (.agg x.cells.toArray)) ∧
      ∃ lv', StT w' base tb mb lv' L ∧ KeyO w' base x ∧ Fr (HBk tb mb lv) w w' ∧ NewB w lv lv' := by
  obtain ⟨M, h1, h2⟩ := h
  refine (tpop_any w base tb mb lv L M x h1 hL).mono fun e w' ⟨he, lv', ht, hf, hn⟩ => ⟨he, lv', ⟨_, ht, h2.pop h1.map.nd⟩, ?_, hf, hn⟩
  have hk : KeyO w base x := h1.keys x (by simp)
  refine ⟨hk.1.fr hf ?_, hk.2⟩
  intro g hg h9
  rcases h9 with h9 | h9 | h9
  · subst h9; exact hk.1.ne h1.blk (by decide) hg
  · subst h9; exact h1.map.ne_own hk.1 hg
  · obtain ⟨cs, hc⟩ := h1.own.typed g h9
    exact hk.1.ne hc (by decide) hg

def HPush (w : World) (base tb mb : Nat) (lv : Value) (L : List TV) (x : TV) (e : Ending) (w' : World) : Prop :=
  e = .returned (.tuple #[]) ∧ ∃ lv' L', HpT w' base tb mb lv' L' ∧ L'.Perm (L ++ [x]) ∧ Fr (HBk tb mb lv) w w' ∧ NewB w lv lv'
set_option maxRecDepth 100000 in
set_option maxHeartbeats 4000000 in
theorem hpush_any (w : World) (base tb mb : Nat) (lv : Value) (L : List TV) (x : TV) (h : HpT w base tb mb lv L) (hx : KeyO w base x) (hL : L.length < 100000) (hbase : base ≤ w.heap.size) (hnm : x.nm ∉ L.map TV.nm) :
    Calls Try.prog 28 #[.iface 65 (.pointer (some ⟨tb, 0, none⟩)), .iface tmT (.agg x.cells.toArray)] w (HPush w base tb mb lv L x) := by
  have h1 := hm_push tb
  have h2 := hm_len tb
  have HP := hide (stpush h.st hx (by omega) hbase hnm)
  have HH := hide h.hp
  clear h hx hnm
  obtain ⟨xa, xk, xb, xf, xt, xw⟩ := x
  unfold TV.cells at HP ⊢
  simp only at HP ⊢
  go_enter Try.func28, Try.ntmps28
  go_wp2_with fail
  refine HP.out.mono ?_
  rintro e w1 ⟨rfl, lv1, hs, hf, hnb⟩
  have HS := hide hs
  have HF := hide hf
  have HN := hide hnb
  clear hs hf hnb HP
  go_wp2_with fail
  refine (stlen HS.out).mono ?_
  rintro e w2 ⟨rfl, rfl⟩
  obtain ⟨n, hn⟩ : ∃ n, n = L.length := ⟨_, rfl⟩
  obtain ⟨n1, hn1⟩ : ∃ n1, n1 = n + 1 := ⟨_, rfl⟩
  have hlen : (L ++ [(⟨xa, xk, xb, xf, xt, xw⟩ : TV)]).length = n1 := by rw [hn1, hn]; simp
  have HU : Hid (UpInv (gt (L ++ [(⟨xa, xk, xb, xf, xt, xw⟩ : TV)])) n1 n) := by
    rw [hn1, hn]
    exact HH.out.push (fun i hi => gt_app hi)
  rw [hlen]
  have he1 : (n1 : Int) - 1 = (n : Int) := by omega
  have hnn : n < n1 := by omega
  have hn5 : n1 ≤ 100000 := by omega
  have HLEN := hide hlen
  clear hn hn1 hlen HH hL
  go_wp2_with fail
  refine (up_any w2 base tb mb lv1 _ n1 n HS.out (by rw [HLEN.out]; exact Nat.le_refl _) hnn (by omega) HU.out).mono ?_
  rintro e w3 ⟨rfl, L3, hs3, hp3, hh3, _, hf3⟩
  have HR : Hid (HPush w base tb mb lv L ⟨xa, xk, xb, xf, xt, xw⟩ (.returned (.tuple #[])) w3) := by
    have hl3 : L3.length = n1 := by rw [hp3.length_eq]; exact HLEN.out
    refine ⟨rfl, lv1, L3, ⟨hs3, by rw [hl3]; exact hh3, by rw [hl3]; exact hn5⟩, hp3, HF.out.trans hf3 (fun j hj h9 => ?_), HN.out⟩
    rcases h9 with h9 | h9
    · exact .inr (.inl h9)
    · rcases HN.out j h9 with h8 | h8
      · exact .inr (.inr h8)
      · omega
  clear hs3 hp3 hh3 hf3
  go_wp2_with fail
  go_end0
  exact HR.out

def HPop (w : World) (base tb mb : Nat) (lv : Value) (L : List TV) (x : TV) (e : Ending) (w' : World) : Prop :=
  e = .returned (.iface tmT (.agg x.cells.toArray)) ∧ ∃ lv' L', HpT w' base tb mb lv' L' ∧ KeyO w' base x ∧ L.Perm (L' ++ [x]) ∧ Fr (HBk tb mb lv) w w' ∧ NewB w lv lv'
theorem HPop.of {w wy : World} {base tb mb n : Nat} {lv : Value} {L L2 : List TV} {x : TV} (hs : StT wy base tb mb lv L2) (hp : L2.Perm L) (hh : HeapN (gt L2) n) (hl : L.length = n + 1) (hx : x = gt L2 n) (hn : n < 100000) (hf : Fr (fun j => j = mb ∨ lv.ownBlock = some j) w wy) :
    Calls Try.prog 93 #[.pointer (some ⟨tb, 0, none⟩)] wy (HPop w base tb mb lv L x) := by
  have hl2 : L2.length = n + 1 := by rw [hp.length_eq, hl]
  obtain ⟨L3, x3, h1, h2, h3⟩ := split_last (L := L2) (by omega)
  have hx3 : x3 = x := by rw [h3, hx, hl2]; rfl
  subst hx3
  subst h1
  have hl3 : L3.length = n := by omega
  refine (stpop hs (by omega)).mono ?_
  rintro e w' ⟨he, lv', hs', hk, hf', hn'⟩
  have hf2 : Fr (HBk tb mb lv) w wy := hf.mono (fun j _ h9 => .inr h9)
  refine ⟨he, lv', L3, ⟨hs', ?_, by omega⟩, hk, hp.symm, hf2.trans hf' (fun j _ h9 => h9), fun g hg => ?_⟩
  · rw [hl3]
    exact hh.mono (Nat.le_refl _) (fun i hi => (gt_app (by omega)).symm)
  · rcases hn' g hg with h9 | h9
    · exact .inl h9
    · exact .inr (Nat.le_trans hf.size h9)

set_option maxRecDepth 100000 in
set_option maxHeartbeats 4000000 in
theorem hpop_any (w : World) (base tb mb : Nat) (lv : Value) (L : List TV) (h : HpT w base tb mb lv L) (hL : 0 < L.length) :
    Calls Try.prog 34 #[.iface 65 (.pointer (some ⟨tb, 0, none⟩))] w (HPop w base tb mb lv L (gt L 0)) := by
  have h1 := hm_pop tb
  have h2 := hm_len tb
  have h3 := hm_swap tb
  have HS := hide h.st
  have HH := hide h.hp
  have hln := h.ln
  clear h
  obtain ⟨n, hn⟩ : ∃ n, n = L.length - 1 := ⟨_, rfl⟩
  obtain ⟨N, hN⟩ : ∃ N, N = L.length := ⟨_, rfl⟩
  have HL := hide hN
  have he1 : (N : Int) - 1 = (n : Int) := by omega
  have hNn : n < N := by omega
  have hn5 : n < 100000 := by omega
  have HN1 : Hid (N = n + 1) := by show _ = _; omega
  rw [← hN] at hL
  clear hn hN hln
  obtain ⟨x, hx⟩ : ∃ x, x = gt L 0 := ⟨_, rfl⟩
  rw [← hx]
  have HX := hide hx
  clear hx
  go_enter Try.func34, Try.ntmps34
  go_wp2_with fail
  refine (stlen HS.out).mono ?_
  rintro e w2 ⟨rfl, rfl⟩
  rw [← HL.out]
  go_wp2_with fail
  refine (stswap 0 n HS.out (by rw [← HL.out]; omega) (by rw [← HL.out]; omega)).mono ?_
  rintro e w3 ⟨rfl, L3, hs3, hp3, hg3, hf3⟩
  have HS3 := hide hs3
  have HP3 := hide hp3
  have HG3 := hide hg3
  have HF3 := hide hf3
  clear hs3 hp3 hg3 hf3
  have HW : Hid (WInv (gt L3) n 0) := by
    refine ⟨fun i h0 h4 h5 h6 => ?_, fun i h0 h4 h5 h6 => by omega⟩
    have h7 := HH.out i h0 (by rw [← HL.out]; omega)
    rw [HG3.out]
    unfold swF
    rw [if_neg (by omega), if_neg (by omega), if_neg (by omega), if_neg (by omega)]
    exact h7
  go_wp2_with fail
  refine (down_any w3 base tb mb lv L3 n 0 HS3.out (by rw [HP3.out.length_eq, ← HL.out]; omega) (by omega) (by omega) HW.out).mono ?_
  rintro e w4 ⟨b, L4, rfl, hd⟩
  have HC : Hid (Calls Try.prog 93 #[.pointer (some ⟨tb, 0, none⟩)] w4 (HPop w2 base tb mb lv L x)) := by
    refine HPop.of hd.st (hd.pm.trans HP3.out) (n := n) ?_ (by rw [← HL.out]; exact HN1.out) ?_ hn5 (HF3.out.trans hd.fr (fun _ _ h => h))
    · cases b
      · obtain ⟨h5, h6⟩ := hd.no rfl
        rw [h5]
        exact h6.zero
      · exact hd.yes rfl
    · rw [hd.hi n (Nat.le_refl _), HG3.out, HX.out]
      unfold swF
      rw [if_pos rfl]
  clear hd HW HS3 HP3 HG3 HF3
  go_wp2_with fail
  refine HC.out.mono ?_
  rintro e w5 ⟨rfl, hr⟩
  have HR := hide hr
  clear hr HC
  go_wp2_with fail
  go_ret
  exact ⟨rfl, HR.out⟩

set_option maxRecDepth 100000 in
set_option maxHeartbeats 4000000 in
theorem hremove_any (w : World) (base tb mb : Nat) (lv : Value) (L : List TV) (i : Nat) (h : HpT w base tb mb lv L) (hi : i < L.length) :
    Calls Try.prog 33 #[.iface 65 (.pointer (some ⟨tb, 0, none⟩)), .int .i64 i] w (HPop w base tb mb lv L (gt L i)) := by
  have h1 := hm_pop tb
  have h2 := hm_len tb
  have h3 := hm_swap tb
  have HS := hide h.st
  have HH := hide h.hp
  have hln := h.ln
  clear h
  obtain ⟨n, hn⟩ : ∃ n, n = L.length - 1 := ⟨_, rfl⟩
  obtain ⟨N, hN⟩ : ∃ N, N = L.length := ⟨_, rfl⟩
  have HL := hide hN
  have he1 : (N : Int) - 1 = (n : Int) := by omega
  have hNn : n < N := by omega
  have hn5 : n < 100000 := by omega
  have HN1 : Hid (N = n + 1) := by show _ = _; omega
  rw [← hN] at hi
  clear hn hN hln
  obtain ⟨x, hx⟩ : ∃ x, x = gt L i := ⟨_, rfl⟩
  rw [← hx]
  have HX := hide hx
  clear hx
  go_enter Try.func33, Try.ntmps33
  go_wp2_with fail
  refine (stlen HS.out).mono ?_
  rintro e w2 ⟨rfl, rfl⟩
  rw [← HL.out]
  by_cases hin : i = n
  · subst hin
    have HC : Hid (Calls Try.prog 93 #[.pointer (some ⟨tb, 0, none⟩)] w2 (HPop w2 base tb mb lv L x)) :=
      HPop.of HS.out (List.Perm.refl _) (HH.out.mono (by rw [← HL.out]; omega) (fun _ _ => rfl)) (by rw [← HL.out]; exact HN1.out) HX.out hn5 (Fr.refl _ _)
    go_wp2_with fail
    refine HC.out.mono ?_
    rintro e w5 ⟨rfl, hr⟩
    have HR := hide hr
    clear hr HC
    go_wp2_with fail
    go_ret
    exact ⟨rfl, HR.out⟩
  · have hin2 : i < n := by have := HN1.out; omega
    have hne : ((n : Int) = (i : Int)) = False := eq_false (by omega)
    go_wp2_with fail
    refine (stswap i n HS.out (by rw [← HL.out]; omega) (by rw [← HL.out]; omega)).mono ?_
    rintro e w3 ⟨rfl, L3, hs3, hp3, hg3, hf3⟩
    have HS3 := hide hs3
    have HP3 := hide hp3
    have HG3 := hide hg3
    have HF3 := hide hf3
    clear hs3 hp3 hg3 hf3
    have HW : Hid (WInv (gt L3) n i) := by
      have h7 := HH.out
      rw [← HL.out, HN1.out] at h7
      refine h7.swap hin2 (fun k hk h8 => ?_)
      rw [HG3.out]
      unfold swF
      rw [if_neg (by omega), if_neg h8]
    have HXN : Hid (x = gt L3 n) := by
      show x = _
      rw [HG3.out, HX.out]
      unfold swF
      rw [if_pos rfl]
    go_wp2_with fail
    refine (down_any w3 base tb mb lv L3 n i HS3.out (by rw [HP3.out.length_eq, ← HL.out]; omega) (by omega) (by omega) HW.out).mono ?_
    rintro e w4 ⟨b, L4, rfl, hd⟩
    have HD := hide hd
    clear hd HW
    cases b
    · have HUP : Hid (Calls Try.prog 44 #[.iface 65 (.pointer (some ⟨tb, 0, none⟩)), .int .i64 i] w4 fun e w' => e = .returned (.tuple #[]) ∧ Calls Try.prog 93 #[.pointer (some ⟨tb, 0, none⟩)] w' (HPop w2 base tb mb lv L x)) := by
        obtain ⟨h5, h6⟩ := HD.out.no rfl
        have hs4 := HD.out.st
        rw [h5] at hs4
        refine (up_any w4 base tb mb lv L3 n i hs4 (by rw [HP3.out.length_eq, ← HL.out]; omega) hin2 (by omega) h6).mono ?_
        rintro e w5 ⟨he, L5, hs5, hp5, hh5, hk5, hf5⟩
        exact ⟨he, HPop.of hs5 (hp5.trans HP3.out) hh5 (by rw [← HL.out]; exact HN1.out) (by rw [hk5 n (Nat.le_refl _)]; exact HXN.out) hn5 ((HF3.out.trans HD.out.fr (fun _ _ h => h)).trans hf5 (fun _ _ h => h))⟩
      clear HD HXN HS3 HP3 HG3 HF3
      go_wp2_with fail
      refine HUP.out.mono ?_
      rintro e w5 ⟨rfl, hc5⟩
      have HC := hide hc5
      clear hc5 HUP
      go_wp2_with fail
      refine HC.out.mono ?_
      rintro e w6 ⟨rfl, hr⟩
      have HR := hide hr
      clear hr HC
      go_wp2_with fail
      go_ret
      exact ⟨rfl, HR.out⟩
    · have HC : Hid (Calls Try.prog 93 #[.pointer (some ⟨tb, 0, none⟩)] w4 (HPop w2 base tb mb lv L x)) :=
        HPop.of HD.out.st (HD.out.pm.trans HP3.out) (HD.out.yes rfl) (by rw [← HL.out]; exact HN1.out) (by rw [HD.out.hi n (Nat.le_refl _)]; exact HXN.out) hn5 (HF3.out.trans HD.out.fr (fun _ _ h => h))
      clear HD HXN HS3 HP3 HG3 HF3
      go_wp2_with fail
      refine HC.out.mono ?_
      rintro e w6 ⟨rfl, hr⟩
      have HR := hide hr
      clear hr HC
      go_wp2_with fail
      go_ret
      exact ⟨rfl, HR.out⟩

end Go.Proofs.Ytogelnljkdcajaa
