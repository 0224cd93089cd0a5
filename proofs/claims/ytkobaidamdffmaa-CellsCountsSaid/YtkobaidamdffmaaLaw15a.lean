/- CellsApart: the walk (printed by genlap15.py). -/
import Derived.Test.YtkobaidamdffmaaAp1
import Derived.Test.YtkobaidamdffmaaAp3
import Derived.Test.YtkobaidamdffmaaOn15
import Derived.Deep.CutBlock
namespace Go.Proofs.Ytkobaidamdffmaa
open Go.RowKit Go.Sort
set_option linter.unusedVariables false
set_option linter.unusedSimpArgs false

theorem PutG.noBeg {w X w' : World} {tb cb : Nat} {L : List (PK × CV)} {kb : List Int} {f t r : Int} {d : CD} (h : PutG w X tb cb none none false L [] [] kb f t d r w') :
    ∃ L', TabG w w' tb cb none none false L' [] [] ∧ L.length ≤ L'.length ∧ L'.length ≤ L.length + 1 ∧ ∀ q : PK, ¬ (q.b = kb ∧ q.f = f ∧ q.t = t) → lk L' q = lk L q := by
  rcases h.2 with ⟨_, _, h2⟩ | ⟨_, _, p, h1, h2, h3, c, _, h4⟩
  · exact ⟨L, h2, Nat.le_refl _, Nat.le_succ _, fun _ _ => rfl⟩
  · refine ⟨_, ?_, (put_len L p c).1, (put_len L p c).2, fun q hq => ?_⟩
    · have e1 : kpW false L [] [] p = [] := if_neg (by simp)
      have e2 : kpF false L [] [] p = [] := if_neg (by simp)
      rw [e1, e2] at h4
      exact h4
    · rw [lk_put, if_neg]
      intro e
      exact hq (by rw [e]; exact ⟨h1, h2, h3⟩)

set_option maxRecDepth 100000 in
set_option maxHeartbeats 16000000 in
theorem apart15_ok (v : Value) (D : List RC) (ok : Int) (x : RC) (w : World) (hs : Sl w w.heap.size v 10 D.length (rcs D)) (hD : ∀ x ∈ D, RCQ w x) (hx : RCQ w x) :
    Calls Try.prog 3 #[v, .agg (Value.int .i64 ok :: x.cells).toArray] w fun e w' => e = .returned (.bool true) ∧ Below w.heap.size w w' := by
  obtain ⟨sA, sc, rfl, hsc⟩ := hs.form
  have hmax := hs.max
  have HS := hide hs
  have HD := hide hD
  clear hs hD
  obtain ⟨N, hN⟩ : ∃ N, N = D.length := ⟨_, rfl⟩
  rw [← hN] at HS hsc hmax ⊢
  have HNN := hide hN
  clear hN
  obtain ⟨xk, xb, xf, xt, xa, d⟩ := x
  obtain ⟨xA, xc, hxk, hxc⟩ := hx.ks.form
  obtain ⟨eA, ec, hxe, hec⟩ := hx.ac.form
  simp only at hxk hxc hxe hec
  obtain ⟨xn, hxn⟩ : ∃ n, n = xb.length := ⟨_, rfl⟩
  obtain ⟨en, hen⟩ : ∃ n, n = d.b.length := ⟨_, rfl⟩
  rw [← hxn] at hxk hxc
  rw [← hen] at hxe hec
  subst hxk hxe
  have HXK : Hid (Sl w w.heap.size (.slice xA xn xc) 1 xn (bys xb) ∧ xb.length = xn ∧ Bytes8 xb ∧ xn ≤ 140737488355328) := ⟨by have h9 := hx.ks; rw [← hxn] at h9; exact h9, hxn.symm, hx.k8, by rw [hxn]; exact hx.kn⟩
  have HXA : Hid (Sl w w.heap.size (.slice eA en ec) 1 en (bys d.b) ∧ d.b.length = en ∧ Bytes8 d.b ∧ en ≤ 140737488355328) := ⟨by have h9 := hx.ac; rw [← hen] at h9; exact h9, hen.symm, hx.a8, by rw [hen]; exact hx.an⟩
  clear hx hxn hen
  unfold RC.cells
  simp only
  obtain ⟨ob, hob⟩ : ∃ ob, ob = w.heap.size := ⟨_, rfl⟩
  have HOP : Hid (Blk (w.alloc (.cells #[.int .i64 ok, .slice xA xn xc, .int .i64 xf, .int .i64 xt, .slice eA en ec, .int .i64 d.s, .int .i64 d.n, .int .i64 d.g, .int .i64 d.h, .bool d.p, .bool d.c] opT15)) ob opT15 #[.int .i64 ok, .slice xA xn xc, .int .i64 xf, .int .i64 xt, .slice eA en ec, .int .i64 d.s, .int .i64 d.n, .int .i64 d.g, .int .i64 d.h, .bool d.p, .bool d.c]) := by rw [hob]; exact Blk.new w _ _
  have HB0 : Hid (Below w.heap.size w (w.alloc (.cells #[.int .i64 ok, .slice xA xn xc, .int .i64 xf, .int .i64 xt, .slice eA en ec, .int .i64 d.s, .int .i64 d.n, .int .i64 d.g, .int .i64 d.h, .bool d.p, .bool d.c] opT15))) := (Below.refl w.heap.size w).alloc (Nat.le_refl _) _
  go_enter Try.func3, Try.ntmps3
  go_upto_region 1 with fail
  rw [← hob]
  change Code.wp _ _ _ _ (w.alloc (.cells #[.int .i64 ok, .slice xA xn xc, .int .i64 xf, .int .i64 xt, .slice eA en ec, .int .i64 d.s, .int .i64 d.n, .int .i64 d.g, .int .i64 d.h, .bool d.p, .bool d.c] opT15))
  generalize w.alloc (.cells #[.int .i64 ok, .slice xA xn xc, .int .i64 xf, .int .i64 xt, .slice eA en ec, .int .i64 d.s, .int .i64 d.n, .int .i64 d.g, .int .i64 d.h, .bool d.p, .bool d.c] opT15) = w1 at *
  clear hob
  go_wp2_with fail
  refine (cnew_any w1 w.heap.size HB0.out.size).mono ?_
  rintro e w2 ⟨tb, cb, rfl, ht, hb⟩
  have HT2 : Hid (TabG w w2 tb cb none none false [] [] []) := ⟨ht, HB0.out.trans (hb.mono HB0.out.size)⟩
  have HOP2 := hide (HOP.out.below hb HOP.out.lt)
  clear ht hb HOP HB0
  by_cases h100 : N ≤ 100
  · have hg : ¬ (100 : Int) < (N : Int) := by omega
    go_wp2_with fail
    go_loopw [33] (fun i wr => ∃ (k : Nat) (L : List (PK × CV)), k ≤ N ∧ i = .int .i64 k ∧ L.length ≤ k ∧ Hid (TabG w wr tb cb none none false L [] [] ∧ Blk wr ob opT15 #[.int .i64 ok, .slice xA xn xc, .int .i64 xf, .int .i64 xt, .slice eA en ec, .int .i64 d.s, .int .i64 d.n, .int .i64 d.g, .int .i64 d.h, .bool d.p, .bool d.c])) (fun i _ => N - (intOf i).toNat)
    case atStart => exact ⟨0, [], Nat.zero_le _, rfl, Nat.le_refl _, HT2.out, HOP2.out⟩
    case round =>
      obtain ⟨k, L, hk, rfl, hl, HI⟩ := hrel
      by_cases hlt : k < N
      · have hkD : k < D.length := by rw [← HNN.out]; exact hlt
        obtain ⟨ad, rfl, hab, a0, a1, a2, a3, a4, a5, a6, a7, a8, a9⟩ := rc_at (HS.out.below HI.out.1.bl) hlt HNN.out.symm
        have hzr := HI.out.1.bl.size
        have hab2 : (ad.add (k * 10)).block < wr.heap.size := by omega
        have HO := hide (HD.out _ (List.getElem_mem hkD))
        generalize D[k] = o at a0 a1 a2 a3 a4 a5 a6 a7 a8 a9 HO
        obtain ⟨okk, obb, of, ot, oa, od⟩ := o
        obtain ⟨oA, oc, hok, hoc⟩ := HO.out.ks.form
        obtain ⟨bA, bc, hbk, hbc⟩ := HO.out.ac.form
        simp only at a0 a1 a2 a3 a4 a5 a6 a7 a8 a9 hok hoc hbk hbc
        obtain ⟨on, hon⟩ : ∃ n, n = obb.length := ⟨_, rfl⟩
        obtain ⟨bn, hbn⟩ : ∃ n, n = od.b.length := ⟨_, rfl⟩
        rw [← hon] at hok hoc
        rw [← hbn] at hbk hbc
        subst hok hbk
        have HK : Hid (Sl w w.heap.size (.slice oA on oc) 1 on (bys obb) ∧ obb.length = on ∧ Bytes8 obb ∧ on ≤ 140737488355328) := ⟨by have h9 := HO.out.ks; rw [← hon] at h9; exact h9, hon.symm, HO.out.k8, by rw [hon]; exact HO.out.kn⟩
        have HA : Hid (Sl w w.heap.size (.slice bA bn bc) 1 bn (bys od.b) ∧ od.b.length = bn ∧ Bytes8 od.b ∧ bn ≤ 140737488355328) := ⟨by have h9 := HO.out.ac; rw [← hbn] at h9; exact h9, hbn.symm, HO.out.a8, by rw [hbn]; exact HO.out.an⟩
        clear HO hon hbn
        go_upto_region 7 with fail
        have HI3 : Hid (TabG w (wr.alloc (.cells #[.slice oA on oc, .int .i64 of, .int .i64 ot, .slice bA bn bc, .int .i64 od.s, .int .i64 od.n, .int .i64 od.g, .int .i64 od.h, .bool od.p, .bool od.c] rcT)) tb cb none none false L [] [] ∧ Blk (wr.alloc (.cells #[.slice oA on oc, .int .i64 of, .int .i64 ot, .slice bA bn bc, .int .i64 od.s, .int .i64 od.n, .int .i64 od.g, .int .i64 od.h, .bool od.p, .bool od.c] rcT)) ob opT15 #[.int .i64 ok, .slice xA xn xc, .int .i64 xf, .int .i64 xt, .slice eA en ec, .int .i64 d.s, .int .i64 d.n, .int .i64 d.g, .int .i64 d.h, .bool d.p, .bool d.c] ∧ Blk (wr.alloc (.cells #[.slice oA on oc, .int .i64 of, .int .i64 ot, .slice bA bn bc, .int .i64 od.s, .int .i64 od.n, .int .i64 od.g, .int .i64 od.h, .bool od.p, .bool od.c] rcT)) wr.heap.size rcT #[.slice oA on oc, .int .i64 of, .int .i64 ot, .slice bA bn bc, .int .i64 od.s, .int .i64 od.n, .int .i64 od.g, .int .i64 od.h, .bool od.p, .bool od.c]) :=
          ⟨HI.out.1.below ((Below.refl _ _).alloc (Nat.le_refl _) _), HI.out.2.alloc _, Blk.new wr _ _⟩
        change Code.wp _ _ _ _ (wr.alloc (.cells #[.slice oA on oc, .int .i64 of, .int .i64 ot, .slice bA bn bc, .int .i64 od.s, .int .i64 od.n, .int .i64 od.g, .int .i64 od.h, .bool od.p, .bool od.c] rcT))
        generalize (wr.alloc (.cells #[.slice oA on oc, .int .i64 of, .int .i64 ot, .slice bA bn bc, .int .i64 od.s, .int .i64 od.n, .int .i64 od.g, .int .i64 od.h, .bool od.p, .bool od.c] rcT)) = w3 at *
        generalize wr.heap.size = pb at *
        clear a0 a1 a2 a3 a4 a5 a6 a7 a8 a9 HI
        refine apart15_put w w3 tb cb pb on oc bn bc none none false L [] [] oA bA obb of ot od (hide HI3.out.1) (hide HI3.out.2.2) HK HA _ ?_
        rintro a' wc ⟨_, _, _, _, _, _, ⟨r, Y, HP⟩, rfl⟩
        obtain ⟨L', h4, h5, h6, _⟩ := HP.out.2.noBeg
        have HI4 : Hid (TabG w wc tb cb none none false L' [] [] ∧ Blk wc ob opT15 #[.int .i64 ok, .slice xA xn xc, .int .i64 xf, .int .i64 xt, .slice eA en ec, .int .i64 d.s, .int .i64 d.n, .int .i64 d.g, .int .i64 d.h, .bool d.p, .bool d.c]) := ⟨h4, HP.out.1.blk HI3.out.2.1 (by decide)⟩
        clear HP h4 h5 HI3 HK HA
        go_wp2_with fail
        go_roundw
        case rel => exact ⟨k + 1, L', by omega, by simp, by omega, HI4⟩
        case measure => simp [intOf]; omega
      · have hl1 : L.length ≤ 100 := by omega
        clear HS HD HNN HT2 HOP2 hl
        go_wp2_with fail
        refine (ckeys_any wr w.heap.size tb cb none none false L [] [] HI.out.1.ts (by omega)).mono ?_
        rintro e w6 ⟨yA, yc, O, rfl, hky⟩
        have HT6 : Hid (TabG w w6 tb cb none none false L [] [] ∧ Blk w6 ob opT15 #[.int .i64 ok, .slice xA xn xc, .int .i64 xf, .int .i64 xt, .slice eA en ec, .int .i64 d.s, .int .i64 d.n, .int .i64 d.g, .int .i64 d.h, .bool d.p, .bool d.c]) := ⟨HI.out.1.below hky.bl, HI.out.2.below hky.bl HI.out.2.lt⟩
        obtain ⟨yn, hyn⟩ : ∃ n, n = O.length := ⟨_, rfl⟩
        have HYN := hide hyn
        have HPM : Hid ((O.map KV.p).Perm (L.map (·.1))) := hky.pm
        have hyl : yn ≤ 100 := by have := hky.pm.length_eq; simp at this; omega
        have HRW : Hid (Go.Proofs.Ytkobaidamdffmaa.Own w6 0 keyT 3 (.slice yA yn yc) yn (kvs O)) := by rw [hyn]; exact hky.own.lower (Nat.zero_le _)
        have HW6 : Hid (WasI w w6 L O 0 [] (.slice none 0 0)) := ⟨Own.nil _ _ _ _, rfl, (fun m hm => by cases hm), (fun m hm => by cases hm), fun x hx => RoB.lower (hky.ky x hx) (Nat.zero_le _)⟩
        rw [← hyn]
        clear hky hyn HI
        go_wp2_with fail
        go_loopw [8, 47] (fun v i wr => ∃ (M : List OV), M.length ≤ yn ∧ i = .int .i64 M.length ∧ Hid (WasI w wr L O M.length M v ∧ Go.Proofs.Ytkobaidamdffmaa.Own wr 0 keyT 3 (.slice yA yn yc) yn (kvs O) ∧ TabG w wr tb cb none none false L [] [] ∧ Blk wr ob opT15 #[.int .i64 ok, .slice xA xn xc, .int .i64 xf, .int .i64 xt, .slice eA en ec, .int .i64 d.s, .int .i64 d.n, .int .i64 d.g, .int .i64 d.h, .bool d.p, .bool d.c])) (fun _ i _ => yn - (intOf i).toNat)
        case atStart => exact ⟨[], Nat.zero_le _, rfl, HW6.out, HRW.out, HT6.out⟩
        case round =>
          obtain ⟨M, hm, rfl, HI⟩ := hrel
          obtain ⟨mA, mc, rfl, hmc⟩ := HI.out.1.own.sl.form
          by_cases hlt : M.length < yn
          · have hkO : M.length < O.length := by rw [← HYN.out]; exact hlt
            obtain ⟨ad, rfl, hab, a0, a1, a2⟩ := kv_at HI.out.2.1.sl hlt HYN.out.symm
            have hab2 : (ad.add (M.length * 3)).block < wr.heap.size := hab
            obtain ⟨x, hx⟩ : ∃ x, x = O[M.length] := ⟨_, rfl⟩
            have HX := hide hx
            have HKY := hide (HI.out.1.ky x (by rw [hx]; exact List.getElem_mem hkO))
            rw [← hx] at a0 a1 a2
            clear hx
            obtain ⟨xv, p⟩ := x
            obtain ⟨qA, qc, hkv, hkc⟩ := RoB.form HKY.out
            simp only at a0 a1 a2 hkv hkc
            subst hkv
            obtain ⟨qn, hqn⟩ : ∃ n, n = p.b.length := ⟨_, rfl⟩
            have HQN := hide hqn
            rw [← hqn] at a0 hkc
            clear hqn
            go_upto_region 13 with fail
            have HI2 : Hid (WasI w (wr.alloc (.cells #[.slice qA qn qc, .int .i64 p.f, .int .i64 p.t] keyT)) L O M.length M _ ∧ Go.Proofs.Ytkobaidamdffmaa.Own (wr.alloc (.cells #[.slice qA qn qc, .int .i64 p.f, .int .i64 p.t] keyT)) 0 keyT 3 (.slice (some ad) yn yc) yn (kvs O) ∧ TabG w (wr.alloc (.cells #[.slice qA qn qc, .int .i64 p.f, .int .i64 p.t] keyT)) tb cb none none false L [] [] ∧ Blk (wr.alloc (.cells #[.slice qA qn qc, .int .i64 p.f, .int .i64 p.t] keyT)) ob opT15 #[.int .i64 ok, .slice xA xn xc, .int .i64 xf, .int .i64 xt, .slice eA en ec, .int .i64 d.s, .int .i64 d.n, .int .i64 d.g, .int .i64 d.h, .bool d.p, .bool d.c] ∧ Blk (wr.alloc (.cells #[.slice qA qn qc, .int .i64 p.f, .int .i64 p.t] keyT)) wr.heap.size keyT #[.slice qA qn qc, .int .i64 p.f, .int .i64 p.t]) :=
              ⟨HI.out.1.below ((Below.refl _ _).alloc (Nat.le_refl _) _), HI.out.2.1.alloc _, HI.out.2.2.1.below ((Below.refl _ _).alloc (Nat.le_refl _) _), HI.out.2.2.2.alloc _, Blk.new wr _ _⟩
            have HSQ : Hid (Sl (wr.alloc (.cells #[.slice qA qn qc, .int .i64 p.f, .int .i64 p.t] keyT)) wr.heap.size (.slice qA qn qc) 1 qn (bys p.b)) := by
              have h9 := RoB.sl HKY.out
              simp only at h9
              rw [← HQN.out] at h9
              exact h9.alloc (Nat.le_refl _) _
            change Code.wp _ _ _ _ (wr.alloc (.cells #[.slice qA qn qc, .int .i64 p.f, .int .i64 p.t] keyT))
            have hsz : wr.heap.size ≤ (wr.alloc (.cells #[.slice qA qn qc, .int .i64 p.f, .int .i64 p.t] keyT)).heap.size := by simp
            generalize (wr.alloc (.cells #[.slice qA qn qc, .int .i64 p.f, .int .i64 p.t] keyT)) = w7 at *
            generalize wr.heap.size = pb at *
            have hpm : p ∈ L.map (·.1) := HPM.out.mem_iff.1 (by have h9 : KV.p O[M.length] ∈ O.map KV.p := List.mem_map_of_mem (List.getElem_mem hkO); rw [← HX.out] at h9; exact h9)
            obtain ⟨c, hlk, _⟩ := lk_memE hpm
            have HG : Hid (Calls Try.prog 14 #[.pointer (some ⟨tb, 0, none⟩), .agg #[.slice qA qn qc, .int .i64 p.f, .int .i64 p.t]] w7 (GetP w7 c.d true)) := by
              have h9 := cget_any w7 w.heap.size tb cb pb qn qc none none false L [] [] qA p HI2.out.2.2.1.ts HSQ.out HQN.out.symm hsz
              rw [hlk] at h9
              exact h9
            have HLK := hide hlk
            have HC8 : Hid (Bytes8 c.d.b) := (HI2.out.2.2.1.ts.acc _ (lk_mem hlk)).2.1
            clear hlk hpm
            obtain ⟨cw, cd⟩ := c
            simp only at HG HC8
            have p0 : w7.cell? ⟨pb, 0, none⟩ = some (.slice qA qn qc) := HI2.out.2.2.2.2.cell 0
            have p1 : w7.cell? ⟨pb, 1, none⟩ = some (.int .i64 p.f) := HI2.out.2.2.2.2.cell 1
            have p2 : w7.cell? ⟨pb, 2, none⟩ = some (.int .i64 p.t) := HI2.out.2.2.2.2.cell 2
            have hpl := HI2.out.2.2.2.2.lt
            clear a0 a1 a2 hab hab2 HI HKY
            go_wp2_with fail
            refine HG.out.mono ?_
            rintro e w8 ⟨uA, uc, rfl, ho, hb8⟩
            obtain ⟨un, hun⟩ : ∃ n, n = cd.b.length := ⟨_, rfl⟩
            rw [← hun] at ho ⊢
            have HUN := hide hun
            have HU8 : Hid (Go.Proofs.Ytkobaidamdffmaa.Own w8 w.heap.size bT 1 (.slice uA un uc) un (bys cd.b)) := ho.lower HI2.out.2.2.1.bl.size
            have HI8 : Hid (WasI w w8 L O M.length M _ ∧ Go.Proofs.Ytkobaidamdffmaa.Own w8 0 keyT 3 (.slice (some ad) yn yc) yn (kvs O) ∧ TabG w w8 tb cb none none false L [] [] ∧ Blk w8 ob opT15 #[.int .i64 ok, .slice xA xn xc, .int .i64 xf, .int .i64 xt, .slice eA en ec, .int .i64 d.s, .int .i64 d.n, .int .i64 d.g, .int .i64 d.h, .bool d.p, .bool d.c] ∧ Blk w8 pb keyT #[.slice qA qn qc, .int .i64 p.f, .int .i64 p.t]) :=
              ⟨HI2.out.1.below hb8, HI2.out.2.1.below hb8, HI2.out.2.2.1.below hb8, HI2.out.2.2.2.1.below hb8 HI2.out.2.2.2.1.lt, HI2.out.2.2.2.2.below hb8 HI2.out.2.2.2.2.lt⟩
            clear HI2 HG ho hb8 hun p0 p1 p2 hpl HSQ hsz
            go_upto_region 14 with fail
            have HI9 : Hid (WasI w (w8.alloc (.cells #[.slice uA un uc, .int .i64 cd.s, .int .i64 cd.n, .int .i64 cd.g, .int .i64 cd.h, .bool cd.p, .bool cd.c] cvT)) L O M.length M (.slice mA M.length mc) ∧ Go.Proofs.Ytkobaidamdffmaa.Own (w8.alloc (.cells #[.slice uA un uc, .int .i64 cd.s, .int .i64 cd.n, .int .i64 cd.g, .int .i64 cd.h, .bool cd.p, .bool cd.c] cvT)) 0 keyT 3 (.slice (some ad) yn yc) yn (kvs O) ∧ TabG w (w8.alloc (.cells #[.slice uA un uc, .int .i64 cd.s, .int .i64 cd.n, .int .i64 cd.g, .int .i64 cd.h, .bool cd.p, .bool cd.c] cvT)) tb cb none none false L [] [] ∧ Blk (w8.alloc (.cells #[.slice uA un uc, .int .i64 cd.s, .int .i64 cd.n, .int .i64 cd.g, .int .i64 cd.h, .bool cd.p, .bool cd.c] cvT)) ob opT15 #[.int .i64 ok, .slice xA xn xc, .int .i64 xf, .int .i64 xt, .slice eA en ec, .int .i64 d.s, .int .i64 d.n, .int .i64 d.g, .int .i64 d.h, .bool d.p, .bool d.c] ∧ Blk (w8.alloc (.cells #[.slice uA un uc, .int .i64 cd.s, .int .i64 cd.n, .int .i64 cd.g, .int .i64 cd.h, .bool cd.p, .bool cd.c] cvT)) pb keyT #[.slice qA qn qc, .int .i64 p.f, .int .i64 p.t] ∧ Blk (w8.alloc (.cells #[.slice uA un uc, .int .i64 cd.s, .int .i64 cd.n, .int .i64 cd.g, .int .i64 cd.h, .bool cd.p, .bool cd.c] cvT)) w8.heap.size cvT #[.slice uA un uc, .int .i64 cd.s, .int .i64 cd.n, .int .i64 cd.g, .int .i64 cd.h, .bool cd.p, .bool cd.c] ∧ Go.Proofs.Ytkobaidamdffmaa.Own (w8.alloc (.cells #[.slice uA un uc, .int .i64 cd.s, .int .i64 cd.n, .int .i64 cd.g, .int .i64 cd.h, .bool cd.p, .bool cd.c] cvT)) w.heap.size bT 1 (.slice uA un uc) un (bys cd.b)) :=
              ⟨HI8.out.1.below ((Below.refl _ _).alloc (Nat.le_refl _) _), HI8.out.2.1.alloc _, HI8.out.2.2.1.below ((Below.refl _ _).alloc (Nat.le_refl _) _), HI8.out.2.2.2.1.alloc _, HI8.out.2.2.2.2.alloc _, Blk.new w8 _ _, HU8.out.alloc _⟩
            change Code.wp _ _ _ _ (w8.alloc (.cells #[.slice uA un uc, .int .i64 cd.s, .int .i64 cd.n, .int .i64 cd.g, .int .i64 cd.h, .bool cd.p, .bool cd.c] cvT))
            generalize (w8.alloc (.cells #[.slice uA un uc, .int .i64 cd.s, .int .i64 cd.n, .int .i64 cd.g, .int .i64 cd.h, .bool cd.p, .bool cd.c] cvT)) = w9 at *
            generalize w8.heap.size = gb at *
            clear HI8 HU8
            have p0 : w9.cell? ⟨pb, 0, none⟩ = some (.slice qA qn qc) := HI9.out.2.2.2.2.1.cell 0
            have p1 : w9.cell? ⟨pb, 1, none⟩ = some (.int .i64 p.f) := HI9.out.2.2.2.2.1.cell 1
            have p2 : w9.cell? ⟨pb, 2, none⟩ = some (.int .i64 p.t) := HI9.out.2.2.2.2.1.cell 2
            have g0 : w9.cell? ⟨gb, 0, none⟩ = some (.slice uA un uc) := HI9.out.2.2.2.2.2.1.cell 0
            have g1 : w9.cell? ⟨gb, 1, none⟩ = some (.int .i64 cd.s) := HI9.out.2.2.2.2.2.1.cell 1
            have g2 : w9.cell? ⟨gb, 2, none⟩ = some (.int .i64 cd.n) := HI9.out.2.2.2.2.2.1.cell 2
            have g3 : w9.cell? ⟨gb, 3, none⟩ = some (.int .i64 cd.g) := HI9.out.2.2.2.2.2.1.cell 3
            have g4 : w9.cell? ⟨gb, 4, none⟩ = some (.int .i64 cd.h) := HI9.out.2.2.2.2.2.1.cell 4
            have g5 : w9.cell? ⟨gb, 5, none⟩ = some (.bool cd.p) := HI9.out.2.2.2.2.2.1.cell 5
            have g6 : w9.cell? ⟨gb, 6, none⟩ = some (.bool cd.c) := HI9.out.2.2.2.2.2.1.cell 6
            have hpl := HI9.out.2.2.2.2.1.lt
            have hgl := HI9.out.2.2.2.2.2.1.lt
            have hz9 := HI9.out.2.2.1.bl.size
            have HSL : Hid (∀ W : World, Sl (W.alloc (.cells #[.slice qA qn qc, .int .i64 p.f, .int .i64 p.t, .slice uA un uc, .int .i64 cd.s, .int .i64 cd.n, .int .i64 cd.g, .int .i64 cd.h, .bool cd.p, .bool cd.c] on1T)) (W.heap.size + 1) (.slice (some ⟨W.heap.size, 0, none⟩) 1 1) 10 1 (ones [⟨⟨.slice qA qn qc, p⟩, ⟨.slice uA un uc, cd⟩⟩])) := fun W =>
              Sl.of_own (Own.new (n := 1) (sz := 10) (e := on1T) (base := 0) W #[.slice qA qn qc, .int .i64 p.f, .int .i64 p.t, .slice uA un uc, .int .i64 cd.s, .int .i64 cd.n, .int .i64 cd.g, .int .i64 cd.h, .bool cd.p, .bool cd.c] (by omega) (by omega) rfl) |>.mono (by simp)
            have HIA : Hid (∀ cs, WasI w (w9.alloc (.cells cs on1T)) L O M.length M (.slice mA M.length mc)) := fun cs => HI9.out.1.below ((Below.refl _ _).alloc (Nat.le_refl _) _)
            go_wp2_with (at_builtin; refine wpList_app rfl tyO (.tmp 57) (.tmp 61) rfl w.heap.size (n := M.length) (m := 1) (B := w9.heap.size + 1) (xs := ones M) (news := ones [⟨⟨.slice qA qn qc, p⟩, ⟨.slice uA un uc, cd⟩⟩]) rfl rfl (by exact (HIA.out _).own) (by exact HSL.out w9) (ones_ok _ (by intro u hu; simp only [List.mem_singleton] at hu; subst hu; exact ⟨rfl, rfl⟩)) (by omega) (by omega) (by simp; omega) ?_)
            intro v5 w5 ha5
            have HXE : Hid ((⟨.slice qA qn qc, p⟩ : KV) = O[M.length]) := by show _ = _; rw [HQN.out]; exact HX.out
            have HZ : Hid (Below w9.heap.size w9 (w9.alloc (.cells #[.slice qA qn qc, .int .i64 p.f, .int .i64 p.t, .slice uA un uc, .int .i64 cd.s, .int .i64 cd.n, .int .i64 cd.g, .int .i64 cd.h, .bool cd.p, .bool cd.c] on1T))) := (Below.refl _ _).alloc (Nat.le_refl _) _
            have hap := ha5.fr
            have HAO := hide (HIA.out #[.slice qA qn qc, .int .i64 p.f, .int .i64 p.t, .slice uA un uc, .int .i64 cd.s, .int .i64 cd.n, .int .i64 cd.g, .int .i64 cd.h, .bool cd.p, .bool cd.c]).own
            have HT9 := hide (HI9.out.2.2.1.below HZ.out)
            have HI5 : Hid (WasI w w5 L O (M ++ [(⟨⟨.slice qA qn qc, p⟩, ⟨.slice uA un uc, cd⟩⟩ : OV)]).length (M ++ [(⟨⟨.slice qA qn qc, p⟩, ⟨.slice uA un uc, cd⟩⟩ : OV)]) v5 ∧ Go.Proofs.Ytkobaidamdffmaa.Own w5 0 keyT 3 (.slice (some ad) yn yc) yn (kvs O) ∧ TabG w w5 tb cb none none false L [] [] ∧ Blk w5 ob opT15 #[.int .i64 ok, .slice xA xn xc, .int .i64 xf, .int .i64 xt, .slice eA en ec, .int .i64 d.s, .int .i64 d.n, .int .i64 d.g, .int .i64 d.h, .bool d.p, .bool d.c]) := by
              refine ⟨(HIA.out #[.slice qA qn qc, .int .i64 p.f, .int .i64 p.t, .slice uA un uc, .int .i64 cd.s, .int .i64 cd.n, .int .i64 cd.g, .int .i64 cd.h, .bool cd.p, .bool cd.c]).app hkO HXE.out ⟨⟨cw, cd⟩, HLK.out, rfl⟩ ⟨?_, HC8.out⟩ ha5, ?_, ⟨?_, ?_⟩, ?_⟩
              · have h9 := HI9.out.2.2.2.2.2.2.below HZ.out
                show Go.Proofs.Ytkobaidamdffmaa.Own _ _ _ _ _ cd.b.length _
                rw [← HUN.out]
                exact h9
              · exact (HI9.out.2.1.below HZ.out).fr hap (fun g hg e => by obtain ⟨c2, k2⟩ := (HI9.out.2.1.below HZ.out).typed g hg; exact HAO.out.ne k2 (by decide) e)
              · exact HT9.out.ts.fr hap (fun j hj e => by obtain ⟨c2, k2⟩ := HAO.out.typed j e; exact HT9.out.ts.nblk k2 (by decide) hj) (fun g cs hb e => HAO.out.ne hb (by decide) e)
              · exact HT9.out.bl.trans (hap.below HT9.out.bl.size (fun k hk h9 => by have := (HAO.out.lt k h9).1; omega))
              · exact hap.blk (HI9.out.2.2.2.1.below HZ.out HI9.out.2.2.2.1.lt) (fun e => HAO.out.ne (HI9.out.2.2.2.1.below HZ.out HI9.out.2.2.2.1.lt) (by decide) e)
            clear ha5 hap HAO HT9 HZ HIA HSL HI9 p0 p1 p2 g0 g1 g2 g3 g4 g5 g6 hpl hgl
            go_wp2_with fail
            go_roundw
            case rel => exact ⟨M ++ [(⟨⟨.slice qA qn qc, p⟩, ⟨.slice uA un uc, cd⟩⟩ : OV)], by simp; omega, by simp, HI5.out⟩
            case measure => simp [intOf]; omega
          · have HML : Hid (M.length = yn) := by show M.length = yn; omega
            have HMO : Hid (M.map OV.k = O) := by show _ = _; rw [HI.out.1.eq, List.take_of_length_le (by rw [← HYN.out]; omega)]
            have HW := hide HI.out.1
            have HT := hide (And.intro HI.out.2.2.1 HI.out.2.2.2)
            clear HI HT6 HRW HW6 hm
            have q0 : wr.cell? ⟨ob, 0, none⟩ = some (.int .i64 ok) := HT.out.2.cell 0
            go_upto_block 4 with fail
            go_cut [] from 66 to 82 (fun wx => ∃ L', Hid (TabG w wx tb cb none none false L' [] [] ∧ Kt wr wx ∧ L.length ≤ L'.length + 1 ∧ L'.length ≤ L.length + 1 ∧ ∀ q : PK, ¬ (q.b = xb ∧ q.f = xf ∧ q.t = xt) → lk L' q = lk L q))
            case first =>
              by_cases h1 : ok = 1
              · subst h1
                go_upto_region 18 with fail
                refine apart15_put2 w wr tb cb ob xn xc en ec none none false L [] [] xA eA xb xf xt d 1 (hide HT.out.1) (hide HT.out.2) HXK HXA _ ?_
                rintro a' wc ⟨_, _, _, _, _, _, _, _, ⟨r, Y, HP⟩, rfl⟩
                obtain ⟨L', h4, h5, h6, h7⟩ := HP.out.2.noBeg
                have HR : Hid (TabG w wc tb cb none none false L' [] [] ∧ Kt wr wc ∧ L.length ≤ L'.length + 1 ∧ L'.length ≤ L.length + 1 ∧ ∀ q : PK, ¬ (q.b = xb ∧ q.f = xf ∧ q.t = xt) → lk L' q = lk L q) := ⟨h4, HP.out.1, by omega, h6, h7⟩
                clear h4 h5 h6 h7 HP q0
                go_wp2_with fail
                go_meet
                case rel => exact ⟨L', HR⟩
              · by_cases h2 : ok = 2
                · subst h2
                  have r0 : wr.cell? ⟨ob, 1, none⟩ = some (.slice xA xn xc) := HT.out.2.cell 1
                  have r1 : wr.cell? ⟨ob, 2, none⟩ = some (.int .i64 xf) := HT.out.2.cell 2
                  have r2 : wr.cell? ⟨ob, 3, none⟩ = some (.int .i64 xt) := HT.out.2.cell 3
                  have r3 : wr.cell? ⟨ob, 4, none⟩ = some (.slice eA en ec) := HT.out.2.cell 4
                  have r4 : wr.cell? ⟨ob, 5, none⟩ = some (.int .i64 d.s) := HT.out.2.cell 5
                  have r5 : wr.cell? ⟨ob, 6, none⟩ = some (.int .i64 d.n) := HT.out.2.cell 6
                  have r6 : wr.cell? ⟨ob, 7, none⟩ = some (.int .i64 d.g) := HT.out.2.cell 7
                  have r7 : wr.cell? ⟨ob, 8, none⟩ = some (.int .i64 d.h) := HT.out.2.cell 8
                  have r8 : wr.cell? ⟨ob, 9, none⟩ = some (.bool d.p) := HT.out.2.cell 9
                  have r9 : wr.cell? ⟨ob, 10, none⟩ = some (.bool d.c) := HT.out.2.cell 10
                  have hol := HT.out.2.lt
                  go_wp2_with fail
                  refine (lkey_q xA xn xc xf xt (.slice eA en ec) d.s d.n d.g d.h d.p d.c xb w.heap.size wr wr (HXK.out.1.below HT.out.1.bl) HXK.out.2.1 HXK.out.2.2.2 HT.out.1.bl.size (Below.refl _ _)).mono ?_
                  rintro e w4 ⟨kA, kc, rfl, hbk, hok, _⟩
                  have HD4 := hide (ldrop_q w w4 tb cb xn kc w4.heap.size none none false L [] [] kA xb xf xt (HT.out.1.below hbk) hok.sl HXK.out.2.1 HXK.out.2.2.1 (Nat.le_refl _))
                  have HK4 := hide (Kt.below hbk)
                  clear hbk hok r0 r1 r2 r3 r4 r5 r6 r7 r8 r9 q0 hol
                  go_wp2_with fail
                  refine HD4.out.mono ?_
                  rintro e wc ⟨b, r, rfl, hdg⟩
                  have HDG := hide hdg
                  clear hdg HD4
                  go_wp2_with fail
                  go_meet
                  case rel =>
                    obtain ⟨k9, ⟨_, _, _, h9⟩ | ⟨p, h1, h2, h3, _, _, h9⟩⟩ := HDG.out
                    · exact ⟨L, h9, HK4.out.trans k9, by omega, by omega, fun _ _ => rfl⟩
                    · refine ⟨delM L p, ⟨?_, h9.bl⟩, HK4.out.trans k9, (del_len L p).1, by have := (del_len L p).2; omega, fun q hq => ?_⟩
                      · have e1 : kpW false L [] [] p = [] := if_neg (by simp)
                        have e2 : kpF false L [] [] p = [] := if_neg (by simp)
                        have h8 := h9.ts
                        rw [e1, e2] at h8
                        simpa using h8
                      · obtain ⟨es, cl, _, _, hnd, _⟩ := HT.out.1.ts.map
                        rw [lk_del hnd, if_neg]
                        intro e
                        exact hq (by rw [e]; exact ⟨h1, h2, h3⟩)
                · have HR : Hid (TabG w wr tb cb none none false L [] [] ∧ Kt wr wr ∧ L.length ≤ L.length + 1 ∧ L.length ≤ L.length + 1 ∧ ∀ q : PK, ¬ (q.b = xb ∧ q.f = xf ∧ q.t = xt) → lk L q = lk L q) := ⟨HT.out.1, Kt.refl _, by omega, by omega, fun _ _ => rfl⟩
                  go_wp2_with fail
                  go_meet
                  case rel => exact ⟨L, HT.out.1, Kt.refl _, by omega, by omega, fun _ _ => rfl⟩
            case rest =>
              obtain ⟨L', HR⟩ := hcut
              have HF : Hid (WasI w wc L O M.length M (.slice mA M.length mc) ∧ TabG w wc tb cb none none false L' [] [] ∧ Blk wc ob opT15 #[.int .i64 ok, .slice xA xn xc, .int .i64 xf, .int .i64 xt, .slice eA en ec, .int .i64 d.s, .int .i64 d.n, .int .i64 d.g, .int .i64 d.h, .bool d.p, .bool d.c]) := ⟨HW.out.kt HR.out.2.1, HR.out.1, HR.out.2.1.blk HT.out.2 (by decide)⟩
              have HLE : Hid (L.length ≤ L'.length + 1 ∧ L'.length ≤ L.length + 1) := ⟨HR.out.2.2.1, HR.out.2.2.2.1⟩
              have HLK := hide HR.out.2.2.2.2
              clear HR HW HT
              have hm1 : M.length ≤ 100 := by have := HML.out; omega
              go_wp2_with fail
              go_loopw [85] (fun i wr => ∃ (k : Nat), k ≤ M.length ∧ i = .int .i64 k ∧ Hid (WasI w wr L O M.length M (.slice mA M.length mc) ∧ TabG w wr tb cb none none false L' [] [] ∧ Blk wr ob opT15 #[.int .i64 ok, .slice xA xn xc, .int .i64 xf, .int .i64 xt, .slice eA en ec, .int .i64 d.s, .int .i64 d.n, .int .i64 d.g, .int .i64 d.h, .bool d.p, .bool d.c])) (fun i _ => M.length - (intOf i).toNat)
              case atStart => exact ⟨0, Nat.zero_le _, rfl, HF.out⟩
              case round =>
                clear HF
                obtain ⟨k, hk, rfl, HI⟩ := hrel
                by_cases hlt : k < M.length
                · obtain ⟨ad, rfl, hab, a0, a1, a2, a3, a4, a5, a6, a7, a8, a9⟩ := one_at HI.out.1.own.sl hlt rfl
                  have hab2 : (ad.add (k * 10)).block < wr.heap.size := hab
                  have HMM := hide (List.getElem_mem hlt)
                  generalize M[k] = x at a0 a1 a2 a3 a4 a5 a6 a7 a8 a9 HMM
                  have HKY := hide (HI.out.1.ky x.k (by rw [← HMO.out]; exact List.mem_map_of_mem HMM.out))
                  have HAC := hide (HI.out.1.acc x HMM.out)
                  have HOK := hide (HI.out.1.ok x HMM.out)
                  clear HMM
                  obtain ⟨⟨xv, p⟩, ⟨av, cd⟩⟩ := x
                  obtain ⟨qA, qc, hkv, hkc⟩ := RoB.form HKY.out
                  obtain ⟨zA, zc, hav, hac⟩ := HAC.out.1.sl.form
                  simp only at a0 a1 a2 a3 a4 a5 a6 a7 a8 a9 hkv hkc hav hac
                  subst hkv hav
                  obtain ⟨qn, hqn⟩ : ∃ n, n = p.b.length := ⟨_, rfl⟩
                  obtain ⟨zn, hzn⟩ : ∃ n, n = cd.b.length := ⟨_, rfl⟩
                  have HQN := hide hqn
                  have HZN := hide hzn
                  rw [← hqn] at a0 hkc
                  rw [← hzn] at a3 hac
                  clear hqn hzn
                  go_upto_region 24 with fail
                  have HI2 : Hid (WasI w (wr.alloc (.cells #[.slice qA qn qc, .int .i64 p.f, .int .i64 p.t, .slice zA zn zc, .int .i64 cd.s, .int .i64 cd.n, .int .i64 cd.g, .int .i64 cd.h, .bool cd.p, .bool cd.c] oneT)) L O M.length M _ ∧ TabG w (wr.alloc (.cells #[.slice qA qn qc, .int .i64 p.f, .int .i64 p.t, .slice zA zn zc, .int .i64 cd.s, .int .i64 cd.n, .int .i64 cd.g, .int .i64 cd.h, .bool cd.p, .bool cd.c] oneT)) tb cb none none false L' [] [] ∧ Blk (wr.alloc (.cells #[.slice qA qn qc, .int .i64 p.f, .int .i64 p.t, .slice zA zn zc, .int .i64 cd.s, .int .i64 cd.n, .int .i64 cd.g, .int .i64 cd.h, .bool cd.p, .bool cd.c] oneT)) ob opT15 #[.int .i64 ok, .slice xA xn xc, .int .i64 xf, .int .i64 xt, .slice eA en ec, .int .i64 d.s, .int .i64 d.n, .int .i64 d.g, .int .i64 d.h, .bool d.p, .bool d.c] ∧ Blk (wr.alloc (.cells #[.slice qA qn qc, .int .i64 p.f, .int .i64 p.t, .slice zA zn zc, .int .i64 cd.s, .int .i64 cd.n, .int .i64 cd.g, .int .i64 cd.h, .bool cd.p, .bool cd.c] oneT)) wr.heap.size oneT #[.slice qA qn qc, .int .i64 p.f, .int .i64 p.t, .slice zA zn zc, .int .i64 cd.s, .int .i64 cd.n, .int .i64 cd.g, .int .i64 cd.h, .bool cd.p, .bool cd.c]) :=
                    ⟨HI.out.1.below ((Below.refl _ _).alloc (Nat.le_refl _) _), HI.out.2.1.below ((Below.refl _ _).alloc (Nat.le_refl _) _), HI.out.2.2.alloc _, Blk.new wr _ _⟩
                  have HSQ : Hid (Sl (wr.alloc (.cells #[.slice qA qn qc, .int .i64 p.f, .int .i64 p.t, .slice zA zn zc, .int .i64 cd.s, .int .i64 cd.n, .int .i64 cd.g, .int .i64 cd.h, .bool cd.p, .bool cd.c] oneT)) wr.heap.size (.slice qA qn qc) 1 qn (bys p.b)) := by
                    have h9 := RoB.sl HKY.out
                    simp only at h9
                    rw [← HQN.out] at h9
                    exact h9.alloc (Nat.le_refl _) _
                  have HSA : Hid (Sl (wr.alloc (.cells #[.slice qA qn qc, .int .i64 p.f, .int .i64 p.t, .slice zA zn zc, .int .i64 cd.s, .int .i64 cd.n, .int .i64 cd.g, .int .i64 cd.h, .bool cd.p, .bool cd.c] oneT)) wr.heap.size (.slice zA zn zc) 1 zn (bys cd.b) ∧ Bytes8 cd.b) := by
                    have h9 := HAC.out.1.sl
                    simp only at h9
                    rw [← HZN.out] at h9
                    exact ⟨h9.alloc (Nat.le_refl _) _, HAC.out.2⟩
                  change Code.wp _ _ _ _ (wr.alloc (.cells #[.slice qA qn qc, .int .i64 p.f, .int .i64 p.t, .slice zA zn zc, .int .i64 cd.s, .int .i64 cd.n, .int .i64 cd.g, .int .i64 cd.h, .bool cd.p, .bool cd.c] oneT))
                  have hsz : wr.heap.size ≤ (wr.alloc (.cells #[.slice qA qn qc, .int .i64 p.f, .int .i64 p.t, .slice zA zn zc, .int .i64 cd.s, .int .i64 cd.n, .int .i64 cd.g, .int .i64 cd.h, .bool cd.p, .bool cd.c] oneT)).heap.size := by simp
                  generalize (wr.alloc (.cells #[.slice qA qn qc, .int .i64 p.f, .int .i64 p.t, .slice zA zn zc, .int .i64 cd.s, .int .i64 cd.n, .int .i64 cd.g, .int .i64 cd.h, .bool cd.p, .bool cd.c] oneT)) = w7 at *
                  generalize wr.heap.size = yb at *
                  have HG := hide (cget_any w7 w.heap.size tb cb yb qn qc none none false L' [] [] qA p HI2.out.2.1.ts HSQ.out HQN.out.symm hsz)
                  have HG8 : Hid (Bytes8 (gv (lk L' p)).d.b) := by
                    cases h9 : lk L' p with
                    | none => exact fun z hz => by cases hz
                    | some c => exact (HI2.out.2.1.ts.acc _ (lk_mem h9)).2.1
                  have HRES : Hid (ordC ⟨p.f, p.t⟩ ⟨xf, xt⟩ p.b xb ≠ 0 → (lk L' p).isSome = true ∧ (gv (lk L' p)).d = cd) := by
                    intro h9
                    obtain ⟨c', h1, h2⟩ := HOK.out
                    have h3 : lk L' p = some c' := by
                      rw [HLK.out p (fun h8 => h9 ((ordC_zero _ _ _ _).2 ⟨by rw [h8.2.1, h8.2.2], h8.1⟩))]
                      exact h1
                    rw [h3]
                    exact ⟨rfl, h2⟩
                  obtain ⟨g, hgd⟩ : ∃ g, g = (gv (lk L' p)).d := ⟨_, rfl⟩
                  obtain ⟨okn, hok⟩ : ∃ o, o = (lk L' p).isSome := ⟨_, rfl⟩
                  rw [← hgd, ← hok] at HRES HG
                  rw [← hgd] at HG8
                  clear hgd hok HKY HAC HOK a0 a1 a2 a3 a4 a5 a6 a7 a8 a9 hab hab2 HI
                  have p0 : w7.cell? ⟨yb, 0, none⟩ = some (.slice qA qn qc) := HI2.out.2.2.2.cell 0
                  have p1 : w7.cell? ⟨yb, 1, none⟩ = some (.int .i64 p.f) := HI2.out.2.2.2.cell 1
                  have p2 : w7.cell? ⟨yb, 2, none⟩ = some (.int .i64 p.t) := HI2.out.2.2.2.cell 2
                  have hpl := HI2.out.2.2.2.lt
                  go_wp2_with fail
                  refine HG.out.mono ?_
                  rintro e w8 ⟨uA, uc, rfl, ho, hb8⟩
                  obtain ⟨un, hun⟩ : ∃ n, n = g.b.length := ⟨_, rfl⟩
                  rw [← hun] at ho ⊢
                  have HUN := hide hun
                  have HU8 : Hid (Go.Proofs.Ytkobaidamdffmaa.Own w8 w.heap.size bT 1 (.slice uA un uc) un (bys g.b)) := ho.lower HI2.out.2.1.bl.size
                  have HI8 : Hid (WasI w w8 L O M.length M _ ∧ TabG w w8 tb cb none none false L' [] [] ∧ Blk w8 ob opT15 #[.int .i64 ok, .slice xA xn xc, .int .i64 xf, .int .i64 xt, .slice eA en ec, .int .i64 d.s, .int .i64 d.n, .int .i64 d.g, .int .i64 d.h, .bool d.p, .bool d.c] ∧ Blk w8 yb oneT #[.slice qA qn qc, .int .i64 p.f, .int .i64 p.t, .slice zA zn zc, .int .i64 cd.s, .int .i64 cd.n, .int .i64 cd.g, .int .i64 cd.h, .bool cd.p, .bool cd.c] ∧ Sl w8 w8.heap.size (.slice qA qn qc) 1 qn (bys p.b) ∧ Sl w8 w8.heap.size (.slice zA zn zc) 1 zn (bys cd.b)) :=
                    ⟨HI2.out.1.below hb8, HI2.out.2.1.below hb8, HI2.out.2.2.1.below hb8 HI2.out.2.2.1.lt, HI2.out.2.2.2.below hb8 HI2.out.2.2.2.lt, (HSQ.out.below (hb8.mono hsz)).mono (Nat.le_trans hsz hb8.size), (HSA.out.1.below (hb8.mono hsz)).mono (Nat.le_trans hsz hb8.size)⟩
                  clear HI2 HG ho hb8 hun p0 p1 p2 hpl HSQ hsz
                  go_upto_region 25 with fail
                  have hwc : Below w8.heap.size w8 (w8.alloc (.cells #[.slice uA un uc, .int .i64 g.s, .int .i64 g.n, .int .i64 g.g, .int .i64 g.h, .bool g.p, .bool g.c] cvT)) := (Below.refl _ _).alloc (Nat.le_refl _) _
                  have HI9 : Hid (WasI w (w8.alloc (.cells #[.slice uA un uc, .int .i64 g.s, .int .i64 g.n, .int .i64 g.g, .int .i64 g.h, .bool g.p, .bool g.c] cvT)) L O M.length M _ ∧ TabG w (w8.alloc (.cells #[.slice uA un uc, .int .i64 g.s, .int .i64 g.n, .int .i64 g.g, .int .i64 g.h, .bool g.p, .bool g.c] cvT)) tb cb none none false L' [] []) := ⟨HI8.out.1.below hwc, HI8.out.2.1.below hwc⟩
                  have HO9 : Hid (Blk (w8.alloc (.cells #[.slice uA un uc, .int .i64 g.s, .int .i64 g.n, .int .i64 g.g, .int .i64 g.h, .bool g.p, .bool g.c] cvT)) ob opT15 #[.int .i64 ok, .slice xA xn xc, .int .i64 xf, .int .i64 xt, .slice eA en ec, .int .i64 d.s, .int .i64 d.n, .int .i64 d.g, .int .i64 d.h, .bool d.p, .bool d.c]) := HI8.out.2.2.1.alloc _
                  have HY9 : Hid (Blk (w8.alloc (.cells #[.slice uA un uc, .int .i64 g.s, .int .i64 g.n, .int .i64 g.g, .int .i64 g.h, .bool g.p, .bool g.c] cvT)) yb oneT #[.slice qA qn qc, .int .i64 p.f, .int .i64 p.t, .slice zA zn zc, .int .i64 cd.s, .int .i64 cd.n, .int .i64 cd.g, .int .i64 cd.h, .bool cd.p, .bool cd.c]) := HI8.out.2.2.2.1.alloc _
                  have HG9 : Hid (Blk (w8.alloc (.cells #[.slice uA un uc, .int .i64 g.s, .int .i64 g.n, .int .i64 g.g, .int .i64 g.h, .bool g.p, .bool g.c] cvT)) w8.heap.size cvT #[.slice uA un uc, .int .i64 g.s, .int .i64 g.n, .int .i64 g.g, .int .i64 g.h, .bool g.p, .bool g.c]) := Blk.new w8 _ _
                  have HK9 : Hid (Sl (w8.alloc (.cells #[.slice uA un uc, .int .i64 g.s, .int .i64 g.n, .int .i64 g.g, .int .i64 g.h, .bool g.p, .bool g.c] cvT)) (w8.alloc (.cells #[.slice uA un uc, .int .i64 g.s, .int .i64 g.n, .int .i64 g.g, .int .i64 g.h, .bool g.p, .bool g.c] cvT)).heap.size (.slice qA qn qc) 1 qn (bys p.b) ∧ p.b.length = qn ∧ Bytes8 p.b) := ⟨(HI8.out.2.2.2.2.1.below hwc).mono hwc.size, HQN.out.symm, p.ok.1⟩
                  have HA9 : Hid (Sl (w8.alloc (.cells #[.slice uA un uc, .int .i64 g.s, .int .i64 g.n, .int .i64 g.g, .int .i64 g.h, .bool g.p, .bool g.c] cvT)) (w8.alloc (.cells #[.slice uA un uc, .int .i64 g.s, .int .i64 g.n, .int .i64 g.g, .int .i64 g.h, .bool g.p, .bool g.c] cvT)).heap.size (.slice zA zn zc) 1 zn (bys cd.b) ∧ cd.b.length = zn ∧ Bytes8 cd.b) := ⟨(HI8.out.2.2.2.2.2.below hwc).mono hwc.size, HZN.out.symm, HSA.out.2⟩
                  have HS9 : Hid (Sl (w8.alloc (.cells #[.slice uA un uc, .int .i64 g.s, .int .i64 g.n, .int .i64 g.g, .int .i64 g.h, .bool g.p, .bool g.c] cvT)) (w8.alloc (.cells #[.slice uA un uc, .int .i64 g.s, .int .i64 g.n, .int .i64 g.g, .int .i64 g.h, .bool g.p, .bool g.c] cvT)).heap.size (.slice uA un uc) 1 un (bys g.b) ∧ g.b.length = un ∧ Bytes8 g.b) := ⟨(HU8.out.below hwc).sl, HUN.out.symm, HG8.out⟩
                  have HX9 : Hid (Sl (w8.alloc (.cells #[.slice uA un uc, .int .i64 g.s, .int .i64 g.n, .int .i64 g.g, .int .i64 g.h, .bool g.p, .bool g.c] cvT)) (w8.alloc (.cells #[.slice uA un uc, .int .i64 g.s, .int .i64 g.n, .int .i64 g.g, .int .i64 g.h, .bool g.p, .bool g.c] cvT)).heap.size (.slice xA xn xc) 1 xn (bys xb) ∧ xb.length = xn ∧ Bytes8 xb) := ⟨(HXK.out.1.below HI9.out.2.bl).mono HI9.out.2.bl.size, HXK.out.2.1, HXK.out.2.2.1⟩
                  change Code.wp _ _ _ _ (w8.alloc (.cells #[.slice uA un uc, .int .i64 g.s, .int .i64 g.n, .int .i64 g.g, .int .i64 g.h, .bool g.p, .bool g.c] cvT))
                  clear hwc HI8 HU8 HSA HQN HZN HUN HG8
                  generalize (w8.alloc (.cells #[.slice uA un uc, .int .i64 g.s, .int .i64 g.n, .int .i64 g.g, .int .i64 g.h, .bool g.p, .bool g.c] cvT)) = w9 at *
                  generalize w8.heap.size = gb at *
                  go_cut [121] from 96 to 121 (fun u wx => u = .bool false ∧ Hid (Below w9.heap.size w9 wx))
                  case first =>
                    exact apart15_ck w9 ob yb gb qn qc zn zc un uc xn xc en ec qA zA uA xA eA p.b xb p.f p.t xf xt ok cd g d okn HO9 HY9 HG9 HK9 HA9 HS9 HX9 HRES _ _ _ (by assumption) (by assumption)
                  case rest =>
                    obtain ⟨rfl, HB⟩ := hcut
                    have HIC : Hid (WasI w wc L O M.length M _ ∧ TabG w wc tb cb none none false L' [] [] ∧ Blk wc ob opT15 #[.int .i64 ok, .slice xA xn xc, .int .i64 xf, .int .i64 xt, .slice eA en ec, .int .i64 d.s, .int .i64 d.n, .int .i64 d.g, .int .i64 d.h, .bool d.p, .bool d.c]) := ⟨HI9.out.1.below HB.out, HI9.out.2.below HB.out, HO9.out.below HB.out HO9.out.lt⟩
                    clear HI9 HB HO9 HY9 HG9 HK9 HA9 HS9 HX9 HRES
                    go_wp2_with fail
                    go_roundw
                    case rel => exact ⟨k + 1, by omega, by simp, HIC⟩
                    case measure => simp [intOf]; omega
                · have hl2 : L'.length ≤ 101 := by
                    have h8 := HPM.out.length_eq
                    simp only [List.length_map] at h8
                    have := HYN.out
                    have := HLE.out.2
                    omega
                  have HNL : Hid (M.length - 1 ≤ L'.length ∧ L'.length ≤ M.length + 1) := by
                    have h8 := HPM.out.length_eq
                    simp only [List.length_map] at h8
                    have := HYN.out
                    have := HLE.out
                    have := HML.out
                    show _ ∧ _
                    omega
                  have hm2 := hm1
                  clear hm1
                  clear HXK HXA HML HMO HLE HLK HYN HPM
                  go_wp2_with fail
                  refine (ckeys_any wr w.heap.size tb cb none none false L' [] [] HI.out.2.1.ts (by omega)).mono ?_
                  rintro e wk ⟨vA, vc, V, rfl, hky⟩
                  have HBK : Hid (Below w.heap.size w wk) := HI.out.2.1.bl.trans (hky.bl.mono HI.out.2.1.bl.size)
                  have hvl := hky.pm.length_eq
                  simp only [List.length_map] at hvl
                  obtain ⟨vn, hvn⟩ : ∃ n, n = V.length := ⟨_, rfl⟩
                  have hn1 := HNL.out.1
                  have hn2 := HNL.out.2
                  rw [← hvl, ← hvn] at hn1 hn2
                  rw [← hvn]
                  clear hky hvl hvn HNL HI
                  obtain ⟨mn, hmn⟩ : ∃ n, n = M.length := ⟨_, rfl⟩
                  rw [← hmn] at hn1 hn2 hm2 ⊢
                  clear hmn
                  have d1 : ((mn : Int) - 1 ≤ (vn : Int)) := by omega
                  have d2 : ((vn : Int) ≤ (mn : Int) + 1) := by omega
                  go_wp2_with fail
                  refine (awake15 wk).mono ?_
                  rintro e w3 ⟨rfl, hb⟩
                  go_wp2_with fail
                  go_ret
                  exact ⟨rfl, HBK.out.trans (hb.mono HBK.out.size)⟩
  · have hg : (100 : Int) < (N : Int) := by omega
    have HB2 := hide HT2.out.bl
    clear HT2 HOP2 HS HD HNN HXK HXA
    go_wp2_with fail
    refine (awake15 w2).mono ?_
    rintro e w3 ⟨rfl, hb⟩
    go_wp2_with fail
    go_ret
    exact ⟨rfl, HB2.out.trans (hb.mono HB2.out.size)⟩
end Go.Proofs.Ytkobaidamdffmaa
