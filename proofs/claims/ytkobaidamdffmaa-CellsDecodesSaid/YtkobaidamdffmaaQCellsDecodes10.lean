/- cells.Table: Encode (printed by genenc15.py). -/
import Derived.Test.YtkobaidamdffmaaQCellsDecodes03
import Derived.Test.YtkobaidamdffmaaQCellsDecodes06
import Derived.Test.YtkobaidamdffmaaQCellsDecodes09

namespace Go.Proofs.Ytkobaidamdffmaa
open Go.RowKit Go.Sort
set_option linter.unusedVariables false
set_option linter.unusedSimpArgs false

/-- a cell's bytes -/
def encP (p : PK) (d : CD) : List Int :=
  beN (p.f + 4194304) 4 ++ beN (p.t + 4194304) 4 ++ (beN p.b.length 4 ++ p.b) ++ (beN d.b.length 4 ++ d.b) ++ (beN d.s 4 ++ beN d.n 8 ++ beN d.h 8) ++ [d.g % 256, if d.p then 1 else 0, if d.c then 1 else 0]
def encB (D : List PK) (L : List (PK × CV)) : List Int := beN D.length 4 ++ D.flatMap fun p => encP p (gv (lk L p)).d
theorem encP_8 (p : PK) (d : CD) (h : Bytes8 d.b) : Bytes8 (encP p d) := by
  intro x hx
  simp only [encP, List.mem_append, List.mem_cons, List.not_mem_nil, or_false] at hx
  rcases hx with ((((h1 | h1) | h1 | h1) | h1 | h1) | (h1 | h1) | h1) | h1 | h1 | h1
  · exact beN_8 _ _ x h1
  · exact beN_8 _ _ x h1
  · exact beN_8 _ _ x h1
  · exact p.ok.1 x h1
  · exact beN_8 _ _ x h1
  · exact h x h1
  · exact beN_8 _ _ x h1
  · exact beN_8 _ _ x h1
  · exact beN_8 _ _ x h1
  · omega
  · rw [h1]; split <;> omega
  · rw [h1]; split <;> omega
theorem run_len_cells (w : World) (cb : Nat) (L : List (PK × CV)) (h : MapR w cb plV cvV L) : (Builtin.len_ #[cmT] 3 #[.map (some cb)]).run Try.prog w = .ok (goInt L.length) w := by
  obtain ⟨es, clock, hb, hs⟩ := h.size
  rw [run_len_map w cmT _ cb es clock (by kernel_rfl) hb, hs]
theorem lk_memE9 {L : List (PK × CV)} {a : PK} (h : a ∈ L.map (·.1)) : ∃ u, lk L a = some u ∧ (a, u) ∈ L := by
  cases hl : lk L a with
  | some u => exact ⟨u, rfl, lk_mem hl⟩
  | none =>
    exfalso
    induction L with
    | nil => simp at h
    | cons b L ih =>
      obtain ⟨b, u⟩ := b
      unfold lk at hl
      split at hl
      · cases hl
      · next hne =>
        refine ih ?_ hl
        rcases List.mem_cons.1 h with h1 | h1
        · exact absurd h1 hne
        · exact h1
theorem ldS_nh {n g h : Int} {p c : Bool} (k : ldS n g h p c) : 0 ≤ n ∧ n < 9223372036854775808 ∧ 0 ≤ h ∧ h < 9223372036854775808 := by
  obtain ⟨h1, _, _, h2, _⟩ := k
  omega
theorem wrap_in {n : Int} (h1 : 0 ≤ n) (h2 : n ≤ 9223372036854775807) : IntKind.i64.wrap n = n := by rw [IntKind.wrap_i64]; first | omega | (unfold wrap64; omega)
/-- behind Encode -/
def EncQ (w : World) (L : List (PK × CV)) (e : Ending) (w' : World) : Prop :=
  ∃ (A : Option Addr) (n c : Nat) (D : List PK), e = .returned (.tuple #[.slice A n c, .int .i64 0]) ∧ n = (encB D L).length ∧ D.Perm (L.map (·.1)) ∧ D.Pairwise leP ∧ Bytes8 (encB D L) ∧ n ≤ 70368744177664 ∧ BufI w w' (.slice A n c) (encB D L)
set_option maxRecDepth 100000 in
set_option maxHeartbeats 8000000 in
theorem cenc_any (w : World) (base tb cb : Nat) (wm fm : Option Nat) (L W : List (PK × CV)) (F : List (PK × Int)) (h : TabS w base tb cb wm fm false L W F) (hL : L.length ≤ 1000000) :
    Calls Try.prog 19 #[.pointer (some ⟨tb, 0, none⟩)] w (EncQ w L) := by
  obtain ⟨t0, t1, t2, t3, htl⟩ := h.open
  have HT := hide h
  have hlen := run_len_cells w cb L h.map
  obtain ⟨ln0, hln0⟩ : ∃ n, n = L.length := ⟨_, rfl⟩
  have HLN := hide hln0
  rw [← hln0] at hlen hL
  clear h t1 t2 hln0
  go_enter Try.func19, Try.ntmps19
  go_wp2_with fail
  refine (put_any w w (.slice none 0 0) [] ln0 4 ⟨Own.nil _ _ _ _, Below.refl _ _⟩ (by omega) (by omega) (by simp)).mono ?_
  rintro e w1 ⟨v1, rfl, hb1, _⟩
  have HB1 := hide hb1
  clear hb1 t0 t3 htl hlen
  go_wp2_with fail
  refine (places_any w1 base tb cb wm fm false L W F (HT.out.below HB1.out.bl) (by rw [← HLN.out]; exact hL)).mono ?_
  rintro e w2 ⟨u, D, rfl, hp⟩
  obtain ⟨uA, uc, rfl, huc⟩ := hp.own.sl.form
  have HB2 : Hid (BufI w w2 v1 ([] ++ beN ln0 4)) := HB1.out.below hp.bl
  have HPO : Hid (Own w2 w1.heap.size plT 3 (.slice uA D.length uc) D.length (pls D)) := hp.own
  have HPM := hide hp.pm
  have HPS := hide hp.so
  obtain ⟨dn, hdn⟩ : ∃ n, n = D.length := ⟨_, rfl⟩
  have HDN := hide hdn
  have hdl : dn = ln0 := by rw [hdn, HLN.out]; have := hp.pm.length_eq; simpa using this
  rw [← hdn] at huc HPO ⊢
  clear hp hdn HB1
  have hd2 : dn ≤ 1000000 := by omega
  have HDL := hide hdl
  clear hdl hL
  go_wp2_with fail
  go_loopw [4, 21] (fun v i wr => ∃ (k : Nat) (E : List Int), k ≤ dn ∧ i = .int .i64 k ∧ E.length ≤ 4 + k * 2097300 ∧ Hid (E = beN ln0 4 ++ (D.take k).flatMap fun p => encP p (gv (lk L p)).d) ∧ Hid (BufI w wr v E ∧ Bt w2 wr)) (fun _ i _ => dn - (intOf i).toNat)
  case atStart => exact ⟨0, beN ln0 4, Nat.zero_le _, rfl, by rw [beN_len]; omega, by simp [Hid], by simpa using HB2.out, Bt.refl _⟩
  case round =>
    obtain ⟨k, E, hk, rfl, hEl, HE, HI⟩ := hrel
    by_cases hlt : k < dn
    · have hkD : k < D.length := by rw [← HDN.out]; exact hlt
      obtain ⟨ad, rfl, hab, a0, a1, a2⟩ := pl_at (HI.out.2.own HPO.out (by decide)).sl hlt HDN.out.symm
      have hab2 : (ad.add (k * 3)).block < wr.heap.size := hab
      obtain ⟨p, hp⟩ : ∃ p, p = D[k] := ⟨_, rfl⟩
      have HPD := hide hp
      have hpm : p ∈ L.map (·.1) := HPM.out.mem_iff.1 (by rw [hp]; exact List.getElem_mem hkD)
      rw [← hp] at a0 a1 a2
      clear hp hab
      obtain ⟨c, hlk, hmem⟩ := lk_memE9 hpm
      have hgv : gv (lk L p) = c := by rw [hlk]; rfl
      have HGV : Hid ((gv (lk L p)).d = c.d) := by show _ = _; rw [hgv]
      have HAC := hide (HT.out.acc _ hmem)
      have HLL0 : Hid (∀ X : World, Below w.heap.size w X → (Instr.lookup cmT (.map (some cb)) (plV p) false).run Try.prog X = .ok (cvV c) X) := fun X hX => by
        have h9 := (HT.out.map.below hX HT.out.map.lt).look plW cmU zeroCv p false (P := Try.prog)
        rw [gv_eq, hgv] at h9
        exact h9
      have hpb : p.b.length ≤ 1048576 := p.ok.2.1
      have hpw : -1048576 ≤ p.f ∧ p.f < p.t ∧ p.t ≤ 2097153 := p.ok.2.2
      have hcr : c.d.b.length ≤ 1048576 ∧ (0 ≤ c.d.s ∧ c.d.s ≤ 1048576) ∧ ldS c.d.n c.d.g c.d.h c.d.p c.d.c := HAC.out.2.2
      obtain ⟨lA, lc, hlv, hlc⟩ := HAC.out.1.sl.form
      simp only at hlv hlc
      clear hlk hmem hgv hpm
      have HPV : Hid (plV p = .agg #[.string (strOfNums p.b), .int .i64 p.f, .int .i64 p.t]) := rfl
      rw [HPV.out] at HLL0
      have HPZ : Hid ((strOfNums p.b).size = p.b.length) := strOf_size p.b
      obtain ⟨cv, ⟨lb, ls, lnx, lg, lh, lp, lcl⟩⟩ := c
      simp only at hlv hcr hlc HGV HAC
      subst hlv
      obtain ⟨ln, hln⟩ : ∃ n, n = lb.length := ⟨_, rfl⟩
      have HLB := hide hln
      rw [← hln] at hlc HAC
      have hcl : ln ≤ 1048576 := by rw [hln]; exact hcr.1
      have hcs := hcr.2.1
      have hcn : 0 ≤ lnx ∧ lnx < 9223372036854775808 ∧ 0 ≤ lh ∧ lh < 9223372036854775808 := ldS_nh hcr.2.2
      unfold cvV CV.cells at HLL0
      simp only at HLL0
      rw [← hln] at HLL0
      clear hln hcr
      have HPB : Hid (strOfNums p.b = strOfNums p.b ∧ Lib.strCells (strOfNums p.b) = bys p.b) := ⟨rfl, strCells_of _ p.ok.1⟩
      obtain ⟨pk, hpk⟩ : ∃ pk, pk = p.b := ⟨_, rfl⟩
      obtain ⟨ps, hps⟩ : ∃ ps, ps = strOfNums p.b := ⟨_, rfl⟩
      obtain ⟨pf, hpf⟩ : ∃ pf, pf = p.f := ⟨_, rfl⟩
      obtain ⟨pt, hpt⟩ : ∃ pt, pt = p.t := ⟨_, rfl⟩
      rw [← hps, ← hpf, ← hpt] at HLL0
      rw [← hps] at a0 HPB HPZ
      rw [← hpf] at a1 hpw
      rw [← hpt] at a2 hpw
      rw [← hpk] at hpb HPB HPZ
      have HPE : Hid (encP p ⟨lb, ls, lnx, lg, lh, lp, lcl⟩ = beN (pf + 4194304) 4 ++ beN (pt + 4194304) 4 ++ (beN pk.length 4 ++ pk) ++ (beN lb.length 4 ++ lb) ++ (beN ls 4 ++ beN lnx 8 ++ beN lh 8) ++ [lg % 256, if lp then 1 else 0, if lcl then 1 else 0]) := by
        show _ = _
        rw [hpk, hpf, hpt]
        rfl
      clear hps hpf hpt hpk HPV
      have hsz : ps.size ≤ 1048576 := by rw [HPZ.out]; exact hpb
      go_upto_region 7 with fail
      have HBP0 : Hid (Below wr.heap.size wr (wr.alloc (.cells #[.string ps, .int .i64 pf, .int .i64 pt] plT)) ∧ Blk (wr.alloc (.cells #[.string ps, .int .i64 pf, .int .i64 pt] plT)) wr.heap.size plT #[.string ps, .int .i64 pf, .int .i64 pt]) := ⟨(Below.refl _ _).alloc (Nat.le_refl _) _, Blk.new wr _ _⟩
      change Code.wp _ _ _ _ (wr.alloc (.cells #[.string ps, .int .i64 pf, .int .i64 pt] plT))
      have HBW : Hid (BufI w (wr.alloc (.cells #[.string ps, .int .i64 pf, .int .i64 pt] plT)) u4 E ∧ Bt w2 (wr.alloc (.cells #[.string ps, .int .i64 pf, .int .i64 pt] plT))) := ⟨HI.out.1.below HBP0.out.1, HI.out.2.trans (Bt.below HBP0.out.1)⟩
      generalize (wr.alloc (.cells #[.string ps, .int .i64 pf, .int .i64 pt] plT)) = w3 at *
      have HPBK := hide HBP0.out.2
      generalize wr.heap.size = pb at *
      clear HBP0 HI a0 a1 a2 hab2
      have HLL : Hid (∀ X : World, Below w3.heap.size w3 X → (Instr.lookup cmT (.map (some cb)) (.agg #[.string ps, .int .i64 pf, .int .i64 pt]) false).run Try.prog X = .ok (.agg #[.slice lA ln lc, .int .i64 ls, .int .i64 lnx, .int .i64 lg, .int .i64 lh, .bool lp, .bool lcl]) X) := fun X hX => HLL0.out X (HBW.out.1.bl.trans (hX.mono HBW.out.1.bl.size))
      have HS : Hid (∀ X : World, Below w3.heap.size w3 X → (fun X : World => X.cell? ⟨tb, 0, none⟩ = some (.map (some cb)) ∧ X.cell? ⟨pb, 0, none⟩ = some (.string ps) ∧ X.cell? ⟨pb, 1, none⟩ = some (.int .i64 pf) ∧ X.cell? ⟨pb, 2, none⟩ = some (.int .i64 pt) ∧ (Instr.lookup cmT (.map (some cb)) (.agg #[.string ps, .int .i64 pf, .int .i64 pt]) false).run Try.prog X = .ok (.agg #[.slice lA ln lc, .int .i64 ls, .int .i64 lnx, .int .i64 lg, .int .i64 lh, .bool lp, .bool lcl]) X) X) := fun X hX => by
        have h1 := (HT.out.below HBW.out.1.bl).below hX
        have h2 := HPBK.out.below hX HPBK.out.lt
        exact ⟨h1.blk.cell 0, h2.cell 0, h2.cell 1, h2.cell 2, HLL.out X hX⟩
      have HD1 : Hid (∀ X : World, Below w3.heap.size w3 X → Below w3.heap.size w3 X.drew) := fun X hX => hX.drewN 1
      have HA1 : Hid (∀ (X : World) (o : Obj), Below w3.heap.size w3 X → Below w3.heap.size w3 (X.alloc o)) := fun X o hX => hX.alloc hX.size o
      have HR1 := hide (Below.refl w3.heap.size w3)
      have HZ7 : Hid (∀ (X : World) (nb : Nat) (a b c d e f g : Value), X.heap.size = nb → Below w3.heap.size w3 X → Below w3.heap.size w3 ((((((((X.alloc (.cells #[.slice none 0 0, .int .i64 0, .int .i64 0, .int .i64 0, .int .i64 0, .bool false, .bool false] cvT)).setCell ⟨nb, 0, none⟩ a).setCell ⟨nb, 1, none⟩ b).setCell ⟨nb, 2, none⟩ c).setCell ⟨nb, 3, none⟩ d).setCell ⟨nb, 4, none⟩ e).setCell ⟨nb, 5, none⟩ f).setCell ⟨nb, 6, none⟩ g) ∧ Blk ((((((((X.alloc (.cells #[.slice none 0 0, .int .i64 0, .int .i64 0, .int .i64 0, .int .i64 0, .bool false, .bool false] cvT)).setCell ⟨nb, 0, none⟩ a).setCell ⟨nb, 1, none⟩ b).setCell ⟨nb, 2, none⟩ c).setCell ⟨nb, 3, none⟩ d).setCell ⟨nb, 4, none⟩ e).setCell ⟨nb, 5, none⟩ f).setCell ⟨nb, 6, none⟩ g) nb cvT #[a, b, c, d, e, f, g] ∧ w3.heap.size ≤ nb) := fun X nb a b c d e f g hn hX => by
        subst hn
        exact ⟨put7_below (hX.alloc hX.size _) hX.size _ _ _ _ _ _ _, put7_blk (Blk.new X _ _) _ _ _ _ _ _ _, hX.size⟩
      go_cut [7] from 25 to 30 (fun q7 wx => ∃ nb, q7 = .pointer (some ⟨nb, 0, none⟩) ∧ Hid (Below w3.heap.size w3 wx ∧ Blk wx nb cvT #[.slice lA ln lc, .int .i64 ls, .int .i64 lnx, .int .i64 lg, .int .i64 lh, .bool lp, .bool lcl] ∧ w3.heap.size ≤ nb))
      case first =>
        obtain ⟨s0, s1, s2, s3, s4⟩ := HS.out w3 HR1.out
        go_region_held3 (fun X : World => X.cell? ⟨tb, 0, none⟩ = some (.map (some cb)) ∧ X.cell? ⟨pb, 0, none⟩ = some (.string ps) ∧ X.cell? ⟨pb, 1, none⟩ = some (.int .i64 pf) ∧ X.cell? ⟨pb, 2, none⟩ = some (.int .i64 pt) ∧ (Instr.lookup cmT (.map (some cb)) (.agg #[.string ps, .int .i64 pf, .int .i64 pt]) false).run Try.prog X = .ok (.agg #[.slice lA ln lc, .int .i64 ls, .int .i64 lnx, .int .i64 lg, .int .i64 lh, .bool lp, .bool lcl]) X) (first
          | with_reducible exact HS.out _ (HD1.out _ HR1.out)
          | with_reducible exact HS.out _ (HA1.out _ _ (HD1.out _ HR1.out))
          | with_reducible exact HS.out _ (HD1.out _ (HA1.out _ _ HR1.out))
          | with_reducible exact HS.out _ (HA1.out _ _ HR1.out)
          | with_reducible exact HS.out _ HR1.out
          | exact HS.out _ (HZ7.out _ _ _ _ _ _ _ _ _ rfl (HD1.out _ HR1.out)).1) (fail)
        all_goals
          go_wp2_with fail
          go_meet
          case rel => first
            | with_reducible exact ⟨_, rfl, hide ⟨HD1.out _ (HA1.out _ _ HR1.out), (Blk.new _ _ _).drew, HR1.out.size⟩⟩
            | with_reducible exact ⟨_, rfl, hide ⟨HA1.out _ _ (HD1.out _ HR1.out), Blk.new _ _ _, (HD1.out _ HR1.out).size⟩⟩
            | with_reducible exact ⟨_, rfl, hide (HZ7.out _ _ _ _ _ _ _ _ _ rfl (HD1.out _ HR1.out))⟩
      case rest =>
      obtain ⟨nb, rfl, HQ⟩ := hcut
      have HB : Hid (BufI w wc u4 E) := HBW.out.1.below HQ.out.1
      have HBT : Hid (Bt w2 wc) := HBW.out.2.trans (Bt.below HQ.out.1)
      have HBX : Hid (Blk wc pb plT #[.string ps, .int .i64 pf, .int .i64 pt] ∧ Blk wc nb cvT #[.slice lA ln lc, .int .i64 ls, .int .i64 lnx, .int .i64 lg, .int .i64 lh, .bool lp, .bool lcl]) := ⟨HPBK.out.below HQ.out.1 HPBK.out.lt, HQ.out.2.1⟩
      clear HQ HBW HPBK HLL HLL0 HS HD1 HA1 HR1 HZ7
      have hEl2 : E.length ≤ 2097300000004 := by omega
      have HW1 : Hid (IntKind.i64.wrap (pf + 4194304) = pf + 4194304) := wrap_in (by omega) (by omega)
      have HW2 : Hid (IntKind.i64.wrap (pt + 4194304) = pt + 4194304) := wrap_in (by omega) (by omega)
      have HP1 : Hid (∀ Y : World, Below wc.heap.size wc Y → Calls Try.prog 39 #[u4, .int .i64 (IntKind.i64.wrap (pf + 4194304)), .int .i64 4] Y fun e w' => ∃ v', e = .returned v' ∧ BufI w w' v' (E ++ beN (pf + 4194304) 4) ∧ Bt wc w') := fun Y hY => by rw [HW1.out]; exact (put_any w Y u4 E (pf + 4194304) 4 (HB.out.below hY) (by omega) (by omega) (by omega)).mono (fun e w' ⟨v', h1, h2, h3⟩ => ⟨v', h1, h2, (Bt.below hY).trans h3⟩)
      have HP2 : Hid (∀ (Y : World) (v : Value), BufI w Y v (E ++ beN (pf + 4194304) 4) → Bt wc Y → Calls Try.prog 39 #[v, .int .i64 (IntKind.i64.wrap (pt + 4194304)), .int .i64 4] Y fun e w' => ∃ v', e = .returned v' ∧ BufI w w' v' ((E ++ beN (pf + 4194304) 4) ++ beN (pt + 4194304) 4) ∧ Bt wc w') := fun Y v h1 h2 => by rw [HW2.out]; exact (put_any w Y v (E ++ beN (pf + 4194304) 4) (pt + 4194304) 4 h1 (by omega) (by omega) (by simp only [List.length_append, beN_len]; omega)).mono (fun e w' ⟨v', h3, h4, h5⟩ => ⟨v', h3, h4, h2.trans h5⟩)
      have HS : Hid (∀ Y : World, Bt wc Y → (fun X : World => X.cell? ⟨pb, 0, none⟩ = some (.string ps) ∧ X.cell? ⟨pb, 1, none⟩ = some (.int .i64 pf) ∧ X.cell? ⟨pb, 2, none⟩ = some (.int .i64 pt) ∧ X.cell? ⟨nb, 0, none⟩ = some (.slice lA ln lc) ∧ X.cell? ⟨nb, 1, none⟩ = some (.int .i64 ls) ∧ X.cell? ⟨nb, 2, none⟩ = some (.int .i64 lnx) ∧ X.cell? ⟨nb, 3, none⟩ = some (.int .i64 lg) ∧ X.cell? ⟨nb, 4, none⟩ = some (.int .i64 lh) ∧ X.cell? ⟨nb, 5, none⟩ = some (.bool lp) ∧ X.cell? ⟨nb, 6, none⟩ = some (.bool lcl)) Y) := fun Y hY => by
        have k := hY.blk HBX.out.1 (by decide)
        have j := hY.blk HBX.out.2 (by decide)
        exact ⟨k.cell 0, k.cell 1, k.cell 2, j.cell 0, j.cell 1, j.cell 2, j.cell 3, j.cell 4, j.cell 5, j.cell 6⟩
      have HR0 : Hid (Bt wc wc.drew ∧ Below wc.heap.size wc wc.drew ∧ Bt wc wc ∧ Below wc.heap.size wc wc) := ⟨Bt.below ((Below.refl _ _).drewN 1), (Below.refl _ _).drewN 1, Bt.refl _, Below.refl _ _⟩
      obtain ⟨s0, s1, s2, s3, s4, s5, s6, s7, s8, s9⟩ := HS.out wc HR0.out.2.2.1
      go_wp2_with fail
      go_region_held3 (fun X : World => X.cell? ⟨pb, 0, none⟩ = some (.string ps) ∧ X.cell? ⟨pb, 1, none⟩ = some (.int .i64 pf) ∧ X.cell? ⟨pb, 2, none⟩ = some (.int .i64 pt) ∧ X.cell? ⟨nb, 0, none⟩ = some (.slice lA ln lc) ∧ X.cell? ⟨nb, 1, none⟩ = some (.int .i64 ls) ∧ X.cell? ⟨nb, 2, none⟩ = some (.int .i64 lnx) ∧ X.cell? ⟨nb, 3, none⟩ = some (.int .i64 lg) ∧ X.cell? ⟨nb, 4, none⟩ = some (.int .i64 lh) ∧ X.cell? ⟨nb, 5, none⟩ = some (.bool lp) ∧ X.cell? ⟨nb, 6, none⟩ = some (.bool lcl)) (first
        | with_reducible exact HS.out _ htwb
        | with_reducible exact HS.out _ htwa
        | with_reducible exact HS.out _ HR0.out.1
        | with_reducible exact HS.out _ HR0.out.2.2.1) (first
        | (go_at_call 39; have hc := HP2.out wa vwa hbwa htwa; refine Calls.mono hc ?_; clear hc; rintro e wb ⟨vwb, rfl, hbwb, htwb⟩)
        | (go_at_call 39; refine (HP1.out _ (by first | with_reducible exact HR0.out.2.1 | with_reducible exact HR0.out.2.2.2)).mono ?_; rintro e wa ⟨vwa, rfl, hbwa, htwa⟩))
      clear HP1 HP2
      obtain ⟨E1, he⟩ : ∃ E1, E1 = E ++ beN (pf + 4194304) 4 ++ beN (pt + 4194304) 4 := ⟨_, rfl⟩
      have HEE1 := hide he
      have hlE1 : E1.length = E.length + 8 := by rw [he]; simp only [List.length_append, beN_len, List.length_cons, List.length_nil] <;> omega
      rw [← he] at hbwb
      have HBE1 := hide hbwb
      have HBXE1 : Hid (Blk wb pb plT #[.string ps, .int .i64 pf, .int .i64 pt] ∧ Blk wb nb cvT #[.slice lA ln lc, .int .i64 ls, .int .i64 lnx, .int .i64 lg, .int .i64 lh, .bool lp, .bool lcl]) := ⟨htwb.blk HBX.out.1 (by decide), htwb.blk HBX.out.2 (by decide)⟩
      have HBTE1 : Hid (Bt w2 wb) := HBT.out.trans htwb
      clear he HB HBX HBT HS HR0 s0 s1 s2 s3 s4 s5 s6 s7 s8 s9
      have HB := HBE1
      have HBX := HBXE1
      have HBT := HBTE1
      clear HBE1 HBXE1 HBTE1 hbwb htwb
      generalize vwb = v8 at *
      generalize wb = w8 at *
      clear hbwa htwa
      have HP1 : Hid (∀ Y : World, Below w8.heap.size w8 Y → Calls Try.prog 39 #[v8, .int .i64 ((ps.size : Int)), .int .i64 4] Y fun e w' => ∃ v', e = .returned v' ∧ BufI w w' v' (E1 ++ beN ((ps.size : Int)) 4) ∧ Bt w8 w') := fun Y hY => by exact (put_any w Y v8 E1 ((ps.size : Int)) 4 (HB.out.below hY) (by omega) (by omega) (by omega)).mono (fun e w' ⟨v', h1, h2, h3⟩ => ⟨v', h1, h2, (Bt.below hY).trans h3⟩)
      have HS : Hid (∀ Y : World, Bt w8 Y → (fun X : World => X.cell? ⟨pb, 0, none⟩ = some (.string ps) ∧ X.cell? ⟨pb, 1, none⟩ = some (.int .i64 pf) ∧ X.cell? ⟨pb, 2, none⟩ = some (.int .i64 pt) ∧ X.cell? ⟨nb, 0, none⟩ = some (.slice lA ln lc) ∧ X.cell? ⟨nb, 1, none⟩ = some (.int .i64 ls) ∧ X.cell? ⟨nb, 2, none⟩ = some (.int .i64 lnx) ∧ X.cell? ⟨nb, 3, none⟩ = some (.int .i64 lg) ∧ X.cell? ⟨nb, 4, none⟩ = some (.int .i64 lh) ∧ X.cell? ⟨nb, 5, none⟩ = some (.bool lp) ∧ X.cell? ⟨nb, 6, none⟩ = some (.bool lcl)) Y) := fun Y hY => by
        have k := hY.blk HBX.out.1 (by decide)
        have j := hY.blk HBX.out.2 (by decide)
        exact ⟨k.cell 0, k.cell 1, k.cell 2, j.cell 0, j.cell 1, j.cell 2, j.cell 3, j.cell 4, j.cell 5, j.cell 6⟩
      have HR0 : Hid (Bt w8 w8.drew ∧ Below w8.heap.size w8 w8.drew ∧ Bt w8 w8 ∧ Below w8.heap.size w8 w8) := ⟨Bt.below ((Below.refl _ _).drewN 1), (Below.refl _ _).drewN 1, Bt.refl _, Below.refl _ _⟩
      obtain ⟨s0, s1, s2, s3, s4, s5, s6, s7, s8, s9⟩ := HS.out w8 HR0.out.2.2.1
      go_wp2_with fail
      go_region_held3 (fun X : World => X.cell? ⟨pb, 0, none⟩ = some (.string ps) ∧ X.cell? ⟨pb, 1, none⟩ = some (.int .i64 pf) ∧ X.cell? ⟨pb, 2, none⟩ = some (.int .i64 pt) ∧ X.cell? ⟨nb, 0, none⟩ = some (.slice lA ln lc) ∧ X.cell? ⟨nb, 1, none⟩ = some (.int .i64 ls) ∧ X.cell? ⟨nb, 2, none⟩ = some (.int .i64 lnx) ∧ X.cell? ⟨nb, 3, none⟩ = some (.int .i64 lg) ∧ X.cell? ⟨nb, 4, none⟩ = some (.int .i64 lh) ∧ X.cell? ⟨nb, 5, none⟩ = some (.bool lp) ∧ X.cell? ⟨nb, 6, none⟩ = some (.bool lcl)) (first
        | with_reducible exact HS.out _ htwb
        | with_reducible exact HS.out _ htwa
        | with_reducible exact HS.out _ HR0.out.1
        | with_reducible exact HS.out _ HR0.out.2.2.1) (first
        | (refine wp_app_str rfl tyB (by kernel_rfl) (.tmp 46) (.tmp 48) rfl w.heap.size (n := (E1 ++ beN (ps.size : Int) 4).length) (xs := bys (E1 ++ beN (ps.size : Int) 4)) (b := ps) rfl rfl hbwa.own (by simp only [List.length_append, beN_len]; omega) hbwa.bl.size ?_; intro vwb wb ha9; have hz := BufI.app (F := pk) hbwa HPZ.out (by rw [← HPB.out.2]; exact ha9); clear ha9; have hbwb := hz.1; have htwb := htwa.trans hz.2; clear hz)
        | (go_at_call 39; refine (HP1.out _ (by first | with_reducible exact HR0.out.2.1 | with_reducible exact HR0.out.2.2.2)).mono ?_; rintro e wa ⟨vwa, rfl, hbwa, htwa⟩))
      clear HP1
      obtain ⟨E2, he⟩ : ∃ E2, E2 = (E1 ++ beN (ps.size : Int) 4) ++ pk := ⟨_, rfl⟩
      have HEE2 := hide he
      have hlE2 : E2.length = E1.length + 4 + pk.length := by rw [he]; simp only [List.length_append, beN_len, List.length_cons, List.length_nil] <;> omega
      rw [← he] at hbwb
      have HBE2 := hide hbwb
      have HBXE2 : Hid (Blk wb pb plT #[.string ps, .int .i64 pf, .int .i64 pt] ∧ Blk wb nb cvT #[.slice lA ln lc, .int .i64 ls, .int .i64 lnx, .int .i64 lg, .int .i64 lh, .bool lp, .bool lcl]) := ⟨htwb.blk HBX.out.1 (by decide), htwb.blk HBX.out.2 (by decide)⟩
      have HBTE2 : Hid (Bt w2 wb) := HBT.out.trans htwb
      clear he HB HBX HBT HS HR0 s0 s1 s2 s3 s4 s5 s6 s7 s8 s9
      have HB := HBE2
      have HBX := HBXE2
      have HBT := HBTE2
      clear HBE2 HBXE2 HBTE2 hbwb htwb
      generalize vwb = v9 at *
      generalize wb = w9 at *
      clear hbwa htwa
      have HSA : Hid (∀ Y : World, Below w.heap.size w Y → Sl Y w.heap.size (.slice lA ln lc) 1 ln (bys lb)) := fun Y hY => by have h9 := (HAC.out.1.sl).below hY; simp only at h9; rw [← HLB.out] at h9; exact h9
      have HP1 : Hid (∀ Y : World, Below w9.heap.size w9 Y → Calls Try.prog 39 #[v9, .int .i64 ((ln : Int)), .int .i64 4] Y fun e w' => ∃ v', e = .returned v' ∧ BufI w w' v' (E2 ++ beN ((ln : Int)) 4) ∧ Bt w9 w') := fun Y hY => by exact (put_any w Y v9 E2 ((ln : Int)) 4 (HB.out.below hY) (by omega) (by omega) (by omega)).mono (fun e w' ⟨v', h1, h2, h3⟩ => ⟨v', h1, h2, (Bt.below hY).trans h3⟩)
      have HS : Hid (∀ Y : World, Bt w9 Y → (fun X : World => X.cell? ⟨pb, 0, none⟩ = some (.string ps) ∧ X.cell? ⟨pb, 1, none⟩ = some (.int .i64 pf) ∧ X.cell? ⟨pb, 2, none⟩ = some (.int .i64 pt) ∧ X.cell? ⟨nb, 0, none⟩ = some (.slice lA ln lc) ∧ X.cell? ⟨nb, 1, none⟩ = some (.int .i64 ls) ∧ X.cell? ⟨nb, 2, none⟩ = some (.int .i64 lnx) ∧ X.cell? ⟨nb, 3, none⟩ = some (.int .i64 lg) ∧ X.cell? ⟨nb, 4, none⟩ = some (.int .i64 lh) ∧ X.cell? ⟨nb, 5, none⟩ = some (.bool lp) ∧ X.cell? ⟨nb, 6, none⟩ = some (.bool lcl)) Y) := fun Y hY => by
        have k := hY.blk HBX.out.1 (by decide)
        have j := hY.blk HBX.out.2 (by decide)
        exact ⟨k.cell 0, k.cell 1, k.cell 2, j.cell 0, j.cell 1, j.cell 2, j.cell 3, j.cell 4, j.cell 5, j.cell 6⟩
      have HR0 : Hid (Bt w9 w9.drew ∧ Below w9.heap.size w9 w9.drew ∧ Bt w9 w9 ∧ Below w9.heap.size w9 w9) := ⟨Bt.below ((Below.refl _ _).drewN 1), (Below.refl _ _).drewN 1, Bt.refl _, Below.refl _ _⟩
      obtain ⟨s0, s1, s2, s3, s4, s5, s6, s7, s8, s9⟩ := HS.out w9 HR0.out.2.2.1
      go_wp2_with fail
      go_region_held3 (fun X : World => X.cell? ⟨pb, 0, none⟩ = some (.string ps) ∧ X.cell? ⟨pb, 1, none⟩ = some (.int .i64 pf) ∧ X.cell? ⟨pb, 2, none⟩ = some (.int .i64 pt) ∧ X.cell? ⟨nb, 0, none⟩ = some (.slice lA ln lc) ∧ X.cell? ⟨nb, 1, none⟩ = some (.int .i64 ls) ∧ X.cell? ⟨nb, 2, none⟩ = some (.int .i64 lnx) ∧ X.cell? ⟨nb, 3, none⟩ = some (.int .i64 lg) ∧ X.cell? ⟨nb, 4, none⟩ = some (.int .i64 lh) ∧ X.cell? ⟨nb, 5, none⟩ = some (.bool lp) ∧ X.cell? ⟨nb, 6, none⟩ = some (.bool lcl)) (first
        | with_reducible exact HS.out _ htwb
        | with_reducible exact HS.out _ htwa
        | with_reducible exact HS.out _ HR0.out.1
        | with_reducible exact HS.out _ HR0.out.2.2.1) (first
        | (refine step_app rfl tyB (.tmp 54) (.tmp 56) rfl w.heap.size (n := (E2 ++ beN (ln : Int) 4).length) (m := ln) (B := w.heap.size) (xs := bys (E2 ++ beN (ln : Int) 4)) (news := bys lb) rfl rfl hbwa.own (HSA.out _ hbwa.bl) (bys_ok _) (by simp only [List.length_append, beN_len]; omega) (by simp only [List.length_append, beN_len]; omega) hbwa.bl.size ?_; intro vwb wb ha9; have hz := BufI.app (F := lb) hbwa HLB.out ha9; clear ha9; have hbwb := hz.1; have htwb := htwa.trans hz.2; clear hz)
        | (go_at_call 39; refine (HP1.out _ (by first | with_reducible exact HR0.out.2.1 | with_reducible exact HR0.out.2.2.2)).mono ?_; rintro e wa ⟨vwa, rfl, hbwa, htwa⟩))
      clear HP1 HSA
      have hll : lb.length = ln := HLB.out.symm
      obtain ⟨E3, he⟩ : ∃ E3, E3 = (E2 ++ beN (ln : Int) 4) ++ lb := ⟨_, rfl⟩
      have HEE3 := hide he
      have hlE3 : E3.length = E2.length + 4 + ln := by rw [he]; simp only [List.length_append, beN_len, List.length_cons, List.length_nil] <;> omega
      rw [← he] at hbwb
      have HBE3 := hide hbwb
      have HBXE3 : Hid (Blk wb pb plT #[.string ps, .int .i64 pf, .int .i64 pt] ∧ Blk wb nb cvT #[.slice lA ln lc, .int .i64 ls, .int .i64 lnx, .int .i64 lg, .int .i64 lh, .bool lp, .bool lcl]) := ⟨htwb.blk HBX.out.1 (by decide), htwb.blk HBX.out.2 (by decide)⟩
      have HBTE3 : Hid (Bt w2 wb) := HBT.out.trans htwb
      clear he HB HBX HBT HS HR0 s0 s1 s2 s3 s4 s5 s6 s7 s8 s9
      have HB := HBE3
      have HBX := HBXE3
      have HBT := HBTE3
      clear HBE3 HBXE3 HBTE3 hbwb htwb
      generalize vwb = v10 at *
      generalize wb = w10 at *
      clear hbwa htwa hll
      have HP1 : Hid (∀ Y : World, Below w10.heap.size w10 Y → Calls Try.prog 39 #[v10, .int .i64 (ls), .int .i64 4] Y fun e w' => ∃ v', e = .returned v' ∧ BufI w w' v' (E3 ++ beN (ls) 4) ∧ Bt w10 w') := fun Y hY => by exact (put_any w Y v10 E3 (ls) 4 (HB.out.below hY) (by omega) (by omega) (by omega)).mono (fun e w' ⟨v', h1, h2, h3⟩ => ⟨v', h1, h2, (Bt.below hY).trans h3⟩)
      have HP2 : Hid (∀ (Y : World) (v : Value), BufI w Y v (E3 ++ beN (ls) 4) → Bt w10 Y → Calls Try.prog 39 #[v, .int .i64 (lnx), .int .i64 8] Y fun e w' => ∃ v', e = .returned v' ∧ BufI w w' v' ((E3 ++ beN (ls) 4) ++ beN (lnx) 8) ∧ Bt w10 w') := fun Y v h1 h2 => by exact (put_any w Y v (E3 ++ beN (ls) 4) (lnx) 8 h1 (by omega) (by omega) (by simp only [List.length_append, beN_len]; omega)).mono (fun e w' ⟨v', h3, h4, h5⟩ => ⟨v', h3, h4, h2.trans h5⟩)
      have HP3 : Hid (∀ (Y : World) (v : Value), BufI w Y v (E3 ++ beN (ls) 4 ++ beN (lnx) 8) → Bt w10 Y → Calls Try.prog 39 #[v, .int .i64 (lh), .int .i64 8] Y fun e w' => ∃ v', e = .returned v' ∧ BufI w w' v' ((E3 ++ beN (ls) 4 ++ beN (lnx) 8) ++ beN (lh) 8) ∧ Bt w10 w') := fun Y v h1 h2 => by exact (put_any w Y v (E3 ++ beN (ls) 4 ++ beN (lnx) 8) (lh) 8 h1 (by omega) (by omega) (by simp only [List.length_append, beN_len]; omega)).mono (fun e w' ⟨v', h3, h4, h5⟩ => ⟨v', h3, h4, h2.trans h5⟩)
      have HS : Hid (∀ Y : World, Bt w10 Y → (fun X : World => X.cell? ⟨pb, 0, none⟩ = some (.string ps) ∧ X.cell? ⟨pb, 1, none⟩ = some (.int .i64 pf) ∧ X.cell? ⟨pb, 2, none⟩ = some (.int .i64 pt) ∧ X.cell? ⟨nb, 0, none⟩ = some (.slice lA ln lc) ∧ X.cell? ⟨nb, 1, none⟩ = some (.int .i64 ls) ∧ X.cell? ⟨nb, 2, none⟩ = some (.int .i64 lnx) ∧ X.cell? ⟨nb, 3, none⟩ = some (.int .i64 lg) ∧ X.cell? ⟨nb, 4, none⟩ = some (.int .i64 lh) ∧ X.cell? ⟨nb, 5, none⟩ = some (.bool lp) ∧ X.cell? ⟨nb, 6, none⟩ = some (.bool lcl)) Y) := fun Y hY => by
        have k := hY.blk HBX.out.1 (by decide)
        have j := hY.blk HBX.out.2 (by decide)
        exact ⟨k.cell 0, k.cell 1, k.cell 2, j.cell 0, j.cell 1, j.cell 2, j.cell 3, j.cell 4, j.cell 5, j.cell 6⟩
      have HR0 : Hid (Bt w10 w10.drew ∧ Below w10.heap.size w10 w10.drew ∧ Bt w10 w10 ∧ Below w10.heap.size w10 w10) := ⟨Bt.below ((Below.refl _ _).drewN 1), (Below.refl _ _).drewN 1, Bt.refl _, Below.refl _ _⟩
      obtain ⟨s0, s1, s2, s3, s4, s5, s6, s7, s8, s9⟩ := HS.out w10 HR0.out.2.2.1
      go_wp2_with fail
      go_region_held3 (fun X : World => X.cell? ⟨pb, 0, none⟩ = some (.string ps) ∧ X.cell? ⟨pb, 1, none⟩ = some (.int .i64 pf) ∧ X.cell? ⟨pb, 2, none⟩ = some (.int .i64 pt) ∧ X.cell? ⟨nb, 0, none⟩ = some (.slice lA ln lc) ∧ X.cell? ⟨nb, 1, none⟩ = some (.int .i64 ls) ∧ X.cell? ⟨nb, 2, none⟩ = some (.int .i64 lnx) ∧ X.cell? ⟨nb, 3, none⟩ = some (.int .i64 lg) ∧ X.cell? ⟨nb, 4, none⟩ = some (.int .i64 lh) ∧ X.cell? ⟨nb, 5, none⟩ = some (.bool lp) ∧ X.cell? ⟨nb, 6, none⟩ = some (.bool lcl)) (first
        | with_reducible exact HS.out _ htwd
        | with_reducible exact HS.out _ htwb
        | with_reducible exact HS.out _ htwa
        | with_reducible exact HS.out _ HR0.out.1
        | with_reducible exact HS.out _ HR0.out.2.2.1) (first
        | (go_at_call 39; have hc := HP3.out wb vwb hbwb htwb; refine Calls.mono hc ?_; clear hc; rintro e wd ⟨vwd, rfl, hbwd, htwd⟩)
        | (go_at_call 39; have hc := HP2.out wa vwa hbwa htwa; refine Calls.mono hc ?_; clear hc; rintro e wb ⟨vwb, rfl, hbwb, htwb⟩)
        | (go_at_call 39; refine (HP1.out _ (by first | with_reducible exact HR0.out.2.1 | with_reducible exact HR0.out.2.2.2)).mono ?_; rintro e wa ⟨vwa, rfl, hbwa, htwa⟩))
      clear HP1 HP2 HP3
      obtain ⟨E4, he⟩ : ∃ E4, E4 = E3 ++ beN (ls) 4 ++ beN (lnx) 8 ++ beN (lh) 8 := ⟨_, rfl⟩
      have HEE4 := hide he
      have hlE4 : E4.length = E3.length + 20 := by rw [he]; simp only [List.length_append, beN_len, List.length_cons, List.length_nil] <;> omega
      rw [← he] at hbwd
      have HBE4 := hide hbwd
      have HBXE4 : Hid (Blk wd pb plT #[.string ps, .int .i64 pf, .int .i64 pt] ∧ Blk wd nb cvT #[.slice lA ln lc, .int .i64 ls, .int .i64 lnx, .int .i64 lg, .int .i64 lh, .bool lp, .bool lcl]) := ⟨htwd.blk HBX.out.1 (by decide), htwd.blk HBX.out.2 (by decide)⟩
      have HBTE4 : Hid (Bt w2 wd) := HBT.out.trans htwd
      clear he HB HBX HBT HS HR0 s0 s1 s2 s3 s4 s5 s6 s7 s8 s9
      have HB := HBE4
      have HBX := HBXE4
      have HBT := HBTE4
      clear HBE4 HBXE4 HBTE4 hbwd htwd
      generalize vwd = v11 at *
      generalize wd = w11 at *
      clear hbwa htwa hbwb htwb
      have HBA : Hid (∀ Y : World, Below w11.heap.size w11 Y → Calls Try.prog 40 #[.bool lp] Y fun e w' => e = .returned (.int .u8 (if lp then 1 else 0)) ∧ Below w11.heap.size w11 w') := fun Y hY => (bit_any lp Y).mono (fun e w' ⟨h1, h2⟩ => ⟨h1, hY.trans (h2.mono hY.size)⟩)
      have HBC : Hid (∀ Y : World, Below w11.heap.size w11 Y → Calls Try.prog 40 #[.bool lcl] Y fun e w' => e = .returned (.int .u8 (if lcl then 1 else 0)) ∧ Below w11.heap.size w11 w') := fun Y hY => (bit_any lcl Y).mono (fun e w' ⟨h1, h2⟩ => ⟨h1, hY.trans (h2.mono hY.size)⟩)
      obtain ⟨bp, hbp⟩ : ∃ b : Int, b = if lp then 1 else 0 := ⟨_, rfl⟩
      obtain ⟨bc, hbc⟩ : ∃ b : Int, b = if lcl then 1 else 0 := ⟨_, rfl⟩
      rw [← hbp] at HBA HPE
      rw [← hbc] at HBC HPE
      clear hbp hbc
      have HSL : Hid (∀ (W : World) (x y z : Int), Sl (W.alloc (.cells #[.int .u8 x, .int .u8 y, .int .u8 z] bT)) (W.heap.size + 1) (.slice (some ⟨W.heap.size, 0, none⟩) 3 3) 1 3 (bys [x, y, z])) := fun W x y z =>
        Sl.of_own (Own.new (n := 3) (sz := 1) (e := bT) (base := 0) W #[.int .u8 x, .int .u8 y, .int .u8 z] (by omega) (by omega) rfl) |>.mono (by simp)
      have HAL : Hid (∀ (Y : World) (o : Obj), Below w11.heap.size w11 Y → BufI w (Y.alloc o) v11 E4 ∧ Bt w11 (Y.alloc o)) := fun Y o hY => ⟨HB.out.below (hY.alloc hY.size o), Bt.below (hY.alloc hY.size o)⟩
      have HFN : Hid (∀ (Y : World) (o : Obj) (x y z : Int) (v' : Value) (w' : World), Below w11.heap.size w11 Y → App (Y.alloc o) w.heap.size bT 1 v11 (E4.length + 3) (bys E4 ++ bys [x, y, z]) v' w' → BufI w w' v' (E4 ++ [x, y, z]) ∧ Bt w11 w') := fun Y o x y z v' w' hY ha => by
        have hz := BufI.app (F := [x, y, z]) (HAL.out Y o hY).1 rfl ha
        exact ⟨hz.1, (HAL.out Y o hY).2.trans hz.2⟩
      have HS : Hid (∀ Y : World, Bt w11 Y → (fun X : World => X.cell? ⟨pb, 0, none⟩ = some (.string ps) ∧ X.cell? ⟨pb, 1, none⟩ = some (.int .i64 pf) ∧ X.cell? ⟨pb, 2, none⟩ = some (.int .i64 pt) ∧ X.cell? ⟨nb, 0, none⟩ = some (.slice lA ln lc) ∧ X.cell? ⟨nb, 1, none⟩ = some (.int .i64 ls) ∧ X.cell? ⟨nb, 2, none⟩ = some (.int .i64 lnx) ∧ X.cell? ⟨nb, 3, none⟩ = some (.int .i64 lg) ∧ X.cell? ⟨nb, 4, none⟩ = some (.int .i64 lh) ∧ X.cell? ⟨nb, 5, none⟩ = some (.bool lp) ∧ X.cell? ⟨nb, 6, none⟩ = some (.bool lcl)) Y) := fun Y hY => by
        have k := hY.blk HBX.out.1 (by decide)
        have j := hY.blk HBX.out.2 (by decide)
        exact ⟨k.cell 0, k.cell 1, k.cell 2, j.cell 0, j.cell 1, j.cell 2, j.cell 3, j.cell 4, j.cell 5, j.cell 6⟩
      have HR0 : Hid (Bt w11 w11.drew ∧ Below w11.heap.size w11 w11.drew ∧ Bt w11 w11 ∧ Below w11.heap.size w11 w11) := ⟨Bt.below ((Below.refl _ _).drewN 1), (Below.refl _ _).drewN 1, Bt.refl _, Below.refl _ _⟩
      obtain ⟨s0, s1, s2, s3, s4, s5, s6, s7, s8, s9⟩ := HS.out w11 HR0.out.2.2.1
      go_wp2_with fail
      go_region_held3 (fun X : World => X.cell? ⟨pb, 0, none⟩ = some (.string ps) ∧ X.cell? ⟨pb, 1, none⟩ = some (.int .i64 pf) ∧ X.cell? ⟨pb, 2, none⟩ = some (.int .i64 pt) ∧ X.cell? ⟨nb, 0, none⟩ = some (.slice lA ln lc) ∧ X.cell? ⟨nb, 1, none⟩ = some (.int .i64 ls) ∧ X.cell? ⟨nb, 2, none⟩ = some (.int .i64 lnx) ∧ X.cell? ⟨nb, 3, none⟩ = some (.int .i64 lg) ∧ X.cell? ⟨nb, 4, none⟩ = some (.int .i64 lh) ∧ X.cell? ⟨nb, 5, none⟩ = some (.bool lp) ∧ X.cell? ⟨nb, 6, none⟩ = some (.bool lcl)) (first
        | with_reducible exact HS.out _ htwb
        | with_reducible exact HS.out _ (HAL.out _ _ hbcp).2
        | with_reducible exact HS.out _ (HAL.out _ _ hbpc).2
        | with_reducible exact HS.out _ (Bt.below hbcp)
        | with_reducible exact HS.out _ (Bt.below hbpc)
        | with_reducible exact HS.out _ (Bt.below hbp1)
        | with_reducible exact HS.out _ (Bt.below hbc1)
        | with_reducible exact HS.out _ HR0.out.1
        | with_reducible exact HS.out _ HR0.out.2.2.1) (first
        | (go_at_call 40; first | (refine (HBC.out _ hbp1).mono ?_; rintro e wcp ⟨rfl, hbcp⟩) | (refine (HBA.out _ hbc1).mono ?_; rintro e wpc ⟨rfl, hbpc⟩) | (refine (HBA.out _ HR0.out.2.1).mono ?_; rintro e wp ⟨rfl, hbp1⟩) | (refine (HBC.out _ HR0.out.2.1).mono ?_; rintro e wq ⟨rfl, hbc1⟩))
        | (first | (have hy := hbcp; refine step_app rfl tyB (.tmp 70) (.tmp 83) rfl w.heap.size (n := E4.length) (m := 3) (B := _) (xs := bys E4) (news := bys [_, _, _]) rfl rfl (by exact (HAL.out _ _ hy).1.own) (by exact HSL.out _ _ _ _) (bys_ok _) (by omega) (by omega) (by exact (HAL.out _ _ hy).1.bl.size) ?_; intro vwb wb ha9; have hz := HFN.out _ _ _ _ _ _ _ hy ha9; clear ha9; have hbwb := hz.1; have htwb := hz.2; clear hz) | (have hy := hbpc; refine step_app rfl tyB (.tmp 70) (.tmp 83) rfl w.heap.size (n := E4.length) (m := 3) (B := _) (xs := bys E4) (news := bys [_, _, _]) rfl rfl (by exact (HAL.out _ _ hy).1.own) (by exact HSL.out _ _ _ _) (bys_ok _) (by omega) (by omega) (by exact (HAL.out _ _ hy).1.bl.size) ?_; intro vwb wb ha9; have hz := HFN.out _ _ _ _ _ _ _ hy ha9; clear ha9; have hbwb := hz.1; have htwb := hz.2; clear hz)))

      all_goals
        have hl5 : (E4 ++ [lg % 256, bp, bc]).length ≤ 4 + (k + 1) * 2097300 := by simp only [List.length_append, List.length_cons, List.length_nil]; omega
        have HE5 : Hid (E4 ++ [lg % 256, bp, bc] = beN ln0 4 ++ (D.take (k + 1)).flatMap fun p => encP p (gv (lk L p)).d) := by
          show _ = _
          rw [HEE4.out, HEE3.out, HEE2.out, HEE1.out, HE.out, List.take_succ_eq_append_getElem hkD, List.flatMap_append, List.flatMap_singleton, ← HPD.out, HGV.out, HPE.out, HPZ.out, HLB.out]
          simp only [List.append_assoc]
        have HI5 : Hid (BufI w wb vwb (E4 ++ [lg % 256, bp, bc]) ∧ Bt w2 wb) := ⟨hbwb, HBT.out.trans htwb⟩
        clear hbwb htwb HB HBX HBT HS HR0 HAL HFN HSL HBA HBC HPE HEE1 HEE2 HEE3 HEE4 s0 s1 s2 s3 s4 s5 s6 s7 s8 s9
        go_wp2_with fail
        go_roundw
        case rel => exact ⟨k + 1, _, by omega, rfl, hl5, HE5, HI5⟩
        case measure => simp [intOf]; omega
    · have hkd : k = dn := by omega
      have HED : Hid (E = encB D L) := by
        show _ = _
        rw [HE.out, hkd, HDN.out, List.take_length, ← HDL.out, HDN.out]
        rfl
      obtain ⟨eA, ec, hev, _⟩ := HI.out.1.own.sl.form
      have HI2 : Hid (BufI w wr (.slice eA E.length ec) E) := by have h9 := HI.out.1; rw [hev] at h9; exact h9
      rw [hev]
      obtain ⟨en, hen⟩ : ∃ n, n = E.length := ⟨_, rfl⟩
      have HEN := hide hen
      rw [← hen] at HI2 hEl ⊢
      have HB8 : Hid (Bytes8 (encB D L)) := by
        intro x hx
        rcases List.mem_append.1 hx with h9 | h9
        · exact beN_8 _ _ x h9
        · obtain ⟨p, hp, hx⟩ := List.mem_flatMap.1 h9
          refine encP_8 p _ ?_ x hx
          cases hl : lk L p with
          | none => exact fun z hz => by cases hz
          | some c => exact (HT.out.acc _ (lk_mem hl)).2.1
      clear hen HI hev
      go_wp2_with fail
      go_ret2
      rw [HED.out] at HI2 HEN
      exact ⟨_, _, _, D, rfl, HEN.out, HPM.out, HPS.out, HB8.out, by omega, HI2.out⟩
end Go.Proofs.Ytkobaidamdffmaa
