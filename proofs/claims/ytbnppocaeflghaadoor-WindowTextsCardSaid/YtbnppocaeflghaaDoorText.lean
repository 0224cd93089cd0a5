/- Text of package window; digits of the law. -/
import Derived.Test.YtbnppocaeflghaaDoorTextP
import Derived.Test.YtbnppocaeflghaaDoorAft
import Derived.Test.YtbnppocaeflghaaDoorProg
import Derived.Shelf.Strconv.Itoa3
import Derived.Shelf.Lay
import Derived.Ground.NamesProg
import Derived.Lib.LaidTab
import Derived.Lib.IndexBytes
import Derived.WalkSpells
import Derived.Deep.CutRange
namespace Go.Proofs
open Go.Shelf
def Tryd.lays171_ren : Go.Shelf.Ren := ⟨fun | 171 => 48 | 243 => 54 | 246 => 65 | 283 => 71 | 284 => 72 | 285 => 73 | 286 => 74 | 129 => 64 | 317 => 76 | 318 => 77 | 319 => 78 | 320 => 79 | 337 => 80 | 338 => 81 | n => n, fun | 3 => 3 | 9 => 9 | 2 => 2 | 4 => 4 | 171 => 98 | 0 => 0 | 53 => 90 | 37 => 100 | 5 => 5 | 173 => 101 | 212 => 108 | 51 => 88 | 20 => 20 | 213 => 109 | 46 => 76 | 232 => 110 | 233 => 111 | n => n, fun | 17 => 0 | 18 => 1 | 19 => 2 | n => n⟩
theorem Tryd.lays171 : Go.Proofs.LaysM.n171 Tryd.prog Tryd.lays171_ren := {
  mixed := by kernel_rfl
  f129 := Tryd.func64.trans (congrArg some (by kernel_rfl))
  f171 := Tryd.func48.trans (congrArg some (by kernel_rfl))
  f243 := Tryd.func54.trans (congrArg some (by kernel_rfl))
  f246 := Tryd.func65.trans (congrArg some (by kernel_rfl))
  f283 := Tryd.func71.trans (congrArg some (by kernel_rfl))
  f284 := Tryd.func72.trans (congrArg some (by kernel_rfl))
  f285 := Tryd.func73.trans (congrArg some (by kernel_rfl))
  f286 := Tryd.func74.trans (congrArg some (by kernel_rfl))
  f317 := Tryd.func76.trans (congrArg some (by kernel_rfl))
  f318 := Tryd.func77.trans (congrArg some (by kernel_rfl))
  f319 := Tryd.func78.trans (congrArg some (by kernel_rfl))
  f320 := Tryd.func79.trans (congrArg some (by kernel_rfl))
  f337 := Tryd.func80.trans (congrArg some (by kernel_rfl))
  f338 := Tryd.func81.trans (congrArg some (by kernel_rfl))
  t0 := Tryd.underlying0
  a0 := Tryd.isAgg0
  z0 := Tryd.sizeOf0
  v0 := Tryd.zeroValue0
  t2 := Tryd.underlying2
  a2 := Tryd.isAgg2
  z2 := Tryd.sizeOf2
  v2 := Tryd.zeroValue2
  t3 := Tryd.underlying3
  a3 := Tryd.isAgg3
  z3 := Tryd.sizeOf3
  v3 := Tryd.zeroValue3
  t4 := Tryd.underlying4
  a4 := Tryd.isAgg4
  z4 := Tryd.sizeOf4
  v4 := Tryd.zeroValue4
  t5 := Tryd.underlying5
  a5 := Tryd.isAgg5
  z5 := Tryd.sizeOf5
  v5 := Tryd.zeroValue5
  t9 := Tryd.underlying9
  a9 := Tryd.isAgg9
  z9 := Tryd.sizeOf9
  v9 := Tryd.zeroValue9
  t20 := Tryd.underlying20
  a20 := Tryd.isAgg20
  z20 := Tryd.sizeOf20
  v20 := Tryd.zeroValue20
  t37 := Tryd.underlying100
  a37 := Tryd.isAgg100
  z37 := Tryd.sizeOf100
  v37 := Tryd.zeroValue100
  t46 := Tryd.underlying76
  a46 := Tryd.isAgg76
  z46 := Tryd.sizeOf76
  v46 := Tryd.zeroValue76
  t51 := Tryd.underlying88
  a51 := Tryd.isAgg88
  z51 := Tryd.sizeOf88
  v51 := Tryd.zeroValue88
  t53 := Tryd.underlying90
  a53 := Tryd.isAgg90
  z53 := Tryd.sizeOf90
  v53 := Tryd.zeroValue90
  t171 := Tryd.underlying98
  a171 := Tryd.isAgg98
  z171 := Tryd.sizeOf98
  v171 := Tryd.zeroValue98
  t173 := Tryd.underlying101
  a173 := Tryd.isAgg101
  z173 := Tryd.sizeOf101
  v173 := Tryd.zeroValue101
  t212 := Tryd.underlying108
  a212 := Tryd.isAgg108
  z212 := Tryd.sizeOf108
  v212 := Tryd.zeroValue108
  t213 := Tryd.underlying109
  a213 := Tryd.isAgg109
  z213 := Tryd.sizeOf109
  t232 := Tryd.underlying110
  a232 := Tryd.isAgg110
  z232 := Tryd.sizeOf110
  v232 := Tryd.zeroValue110
  t233 := Tryd.underlying111
  a233 := Tryd.isAgg111
  z233 := Tryd.sizeOf111
  v233 := Tryd.zeroValue111
  g17 := by kernel_rfl
  g18 := by kernel_rfl
  g19 := by kernel_rfl
  i0 := by kernel_rfl
  i2 := by kernel_rfl
  i3 := by kernel_rfl
  i4 := by kernel_rfl
  i5 := by kernel_rfl
  i9 := by kernel_rfl
  i20 := by kernel_rfl
  i37 := by kernel_rfl
  i46 := by kernel_rfl
  i51 := by kernel_rfl
  i53 := by kernel_rfl
  i171 := by kernel_rfl
  i173 := by kernel_rfl
  i212 := by kernel_rfl
  i232 := by kernel_rfl
  i233 := by kernel_rfl
  m17 := by kernel_rfl
  m18 := by kernel_rfl
  m19 := by kernel_rfl }
end Go.Proofs
namespace Go.Proofs.YtbnppocaeflghaaDoor
open Go.RowKit Go.Sort
set_option linter.unusedVariables false
set_option linter.unusedSimpArgs false

/-- the table of powers of ten is there -/
def Tab10 (w : World) : Prop := Lib.TabIs Tryd.prog w "internal/strconv.uint64pow10" .u64 Lib.pow10Tab
theorem Tab10.below {w w' : World} (h : Tab10 w) (hb : Below w.heap.size w w') : Tab10 w' := by
  unfold Tab10 Lib.TabIs World.var? at *
  rw [Option.bind_eq_some_iff] at h ⊢
  obtain ⟨g, hg, h⟩ := h
  refine ⟨g, hg, ?_⟩
  have hlt : g < w.heap.size := by
    rcases Nat.lt_or_ge g w.heap.size with h9 | h9
    · exact h9
    · rw [Array.getElem?_eq_none h9] at h; cases h
  rw [hb.block g hlt]
  exact h
theorem grow_below' {w : World} (q : Nat) (os : Array Obj) : Below w.heap.size w (grow (w.drewN q) os) := by
  refine ⟨rfl, rfl, rfl, ?_, fun k hk => ?_⟩
  · show w.heap.size ≤ (w.heap ++ os).size
    simp
  · show (w.heap ++ os)[k]? = w.heap[k]?
    rw [Array.getElem?_append_left hk]
theorem itoa_any (n : Int) (h0 : -9223372036854775808 ≤ n) (h1 : n ≤ 9223372036854775807) (w : World) (ht : Tab10 w) :
    Calls Tryd.prog 48 #[.int .i64 n] w fun e w' => e = .returned (.string ⟨(Lib.itoa n).toArray⟩) ∧ Below w.heap.size w w' :=
  (Any.strconv_Itoa Tryd.lays171 n h0 h1 w ht).mono fun e w' ⟨he, k, os, hw⟩ => ⟨he, by rw [hw]; exact grow_below' k os⟩

theorem cat_run {P : Program} (a b : ByteArray) (h : a.size + b.size ≤ 9223372036854775807) (w : World) : (Op.stringOp .add a b).run P w = .ok (.string (a ++ b)) w := by
  have : ¬ ((9223372036854775807 : Int) < (a.size : Int) + (b.size : Int)) := by omega
  simp [Op.stringOp, this]
def strW (f t : Int) : ByteArray := ⟨(textW f t).toArray⟩
theorem text_any (f t : Int) (hf0 : -9223372036854775808 ≤ f) (hf1 : f ≤ 9223372036854775807) (ht0 : -9223372036854775808 ≤ t) (ht1 : t ≤ 9223372036854775807) (w : World) (ht : Tab10 w) :
    Calls Tryd.prog 31 #[.agg #[.int .i64 f, .int .i64 t]] w fun e w' => e = .returned (.string (strW f t)) ∧ Below w.heap.size w w' := by
  have HT : Hid (Tab10 (w.alloc (.cells #[.int .i64 f, .int .i64 t] 33))) := ht.below ((Below.refl w.heap.size w).alloc (Nat.le_refl _) _)
  obtain ⟨sf, hsf⟩ : ∃ sf : ByteArray, sf = ⟨(Lib.itoa f).toArray⟩ := ⟨_, rfl⟩
  obtain ⟨st, hst⟩ : ∃ st : ByteArray, st = ⟨(Lib.itoa t).toArray⟩ := ⟨_, rfl⟩
  have HI1 : Hid (∀ W : World, Tab10 W → Calls Tryd.prog 48 #[.int .i64 f] W fun e w' => e = .returned (.string sf) ∧ Below W.heap.size W w') := fun W hW => by rw [hsf]; exact itoa_any f hf0 hf1 W hW
  have HI2 : Hid (∀ W : World, Tab10 W → Calls Tryd.prog 48 #[.int .i64 t] W fun e w' => e = .returned (.string st) ∧ Below W.heap.size W w') := fun W hW => by rw [hst]; exact itoa_any t ht0 ht1 W hW
  have HS : Hid (strW f t = sf ++ ⟨#[46, 46]⟩ ++ st) := by
    show _ = _
    rw [hsf, hst]
    unfold strW textW
    apply ByteArray.ext
    rw [ByteArray.data_append, ByteArray.data_append]
    simp
  have zf : sf.size ≤ 21 := by have := itoa_len f hf0 hf1; rw [hsf]; simpa [ByteArray.size] using this
  have zt : st.size ≤ 21 := by have := itoa_len t ht0 ht1; rw [hst]; simpa [ByteArray.size] using this
  have zd : (ByteArray.mk #[46, 46]).size = 2 := rfl
  clear hsf hst
  obtain ⟨s1, hs1⟩ : ∃ s1, s1 = sf ++ ⟨#[46, 46]⟩ := ⟨_, rfl⟩
  obtain ⟨s2, hs2⟩ : ∃ s2, s2 = s1 ++ st := ⟨_, rfl⟩
  have z1 : s1.size ≤ 23 := by rw [hs1, ByteArray.size_append]; omega
  have hA : ∀ W : World, (Op.stringOp .add sf ⟨#[46, 46]⟩).run Tryd.prog W = .ok (.string s1) W := fun W => by rw [hs1]; exact cat_run _ _ (by omega) W
  have hB : ∀ W : World, (Op.stringOp .add s1 st).run Tryd.prog W = .ok (.string s2) W := fun W => by rw [hs2]; exact cat_run _ _ (by omega) W
  rw [← hs1, ← hs2] at HS
  clear hs1 hs2 zf zt zd z1
  clear ht
  go_enter Tryd.func31, Tryd.ntmps31
  go_wp2_with fail
  have HB0 : Hid (Below w.heap.size w (w.alloc (.cells #[.int .i64 f, .int .i64 t] 33))) := (Below.refl w.heap.size w).alloc (Nat.le_refl _) _
  have HX : Hid (Blk (w.alloc (.cells #[.int .i64 f, .int .i64 t] 33)) w.heap.size 33 #[.int .i64 f, .int .i64 t]) := Blk.new w _ _
  generalize w.alloc (.cells #[.int .i64 f, .int .i64 t] 33) = w1 at *
  have y0 := Aft.cell (x := ⟨w.heap.size, 0, none⟩) (v := .int .i64 f) (HX.out.cell 0) HX.out.lt
  have y1 := Aft.cell (x := ⟨w.heap.size, 1, none⟩) (v := .int .i64 t) (HX.out.cell 1) HX.out.lt
  refine wp_region_aft (by kernel_rfl) (by kernel_rfl) ?_
  repeat (go_big_quiet_step (first
    | (go_at_call 48; with_reducible exact calls_aft (HI1.out _ (HT.out.below (Aft.h _))))
    | (go_at_call 48; with_reducible exact calls_aft (HI2.out _ (HT.out.below (Aft.h _))))))
  refine wpQuiet_nil ?_
  intro w9 hb9
  have HB9 := hide (HB0.out.trans (hb9.mono HB0.out.size))
  clear hb9
  go_wp2_with fail
  go_ret
  rw [HS.out]
  exact ⟨rfl, HB9.out⟩

theorem size_list (s : ByteArray) : s.size = s.data.toList.length := (Array.length_toList (xs := s.data)).symm
theorem at_get {s : ByteArray} {i : Nat} {b : UInt8} (h : s.data.toList[i]? = some b) : ∃ hp : i < s.size, s[i]'hp = b := by
  obtain ⟨h1, h2⟩ := List.getElem?_eq_some_iff.1 h
  exact ⟨by rw [size_list]; exact h1, by rw [← h2]; rfl⟩
theorem slice_run (s : ByteArray) (i : Nat) (h : i ≤ s.size) (w : World) : (Instr.slice 9 (.string s) (some (.int .i64 i)) none none).run Tryd.prog w = .ok (.string (s.extract i s.size)) w := by
  have h9 := run_slice_string_l (P := Tryd.prog) (w := w) (t := 9) (s := s) Tryd.underlying9 .i64 (i : Int) (by omega) (by omega)
  simpa using h9
theorem slice_run_h (s : ByteArray) (i : Nat) (h : i ≤ s.size) (w : World) : (Instr.slice 9 (.string s) none (some (.int .i64 i)) none).run Tryd.prog w = .ok (.string (s.extract 0 i)) w := by
  have h9 := run_slice_string_h (P := Tryd.prog) (w := w) (t := 9) (s := s) Tryd.underlying9 .i64 (i : Int) (by omega) (by omega)
  simpa using h9

-- DIGITS
set_option maxHeartbeats 4000000 in
theorem digits_neg (n : Int) (s : ByteArray) (hs : s.data.toList = Lib.itoa n) (h0 : -9223372036854775808 ≤ n) (h1 : n ≤ 9223372036854775807) (hn : n < 0) (w : World) :
    Calls Tryd.prog 32 #[.string s, .int .i64 n] w fun e w' => e = .returned (.bool true) ∧ w' = w := by
  rw [itoa_neg hn] at hs
  obtain ⟨D, hD⟩ : ∃ D, D = Lib.decDigits n.natAbs := ⟨_, rfl⟩
  rw [← hD] at hs
  obtain ⟨L, hL⟩ : ∃ L, L = D.length := ⟨_, rfl⟩
  have hLp : 0 < L := by rw [hL, hD]; exact dd_pos _
  have hL20 : L ≤ 20 := by rw [hL, hD]; exact dd_len _ (by omega)
  have zs : s.size = L + 1 := by rw [size_list, hs, hL]; rfl
  obtain ⟨p0, g0⟩ := at_get (s := s) (i := 0) (b := 45) (by rw [hs]; rfl)
  have i0 : ((s[0]'p0).toNat : Int) = 45 := by rw [g0]; rfl
  have hd1 : (s.extract 1 s.size).data.toList = D := by rw [Lib.extract_to_end, hs]; rfl
  have l2 : ¬ ((L : Int) + 1 < 2) := by omega
  have z0 : (s.size : Int) = (L : Int) + 1 := by omega
  have zz : ((s.size - 1 : Nat) : Int) = (L : Int) := by omega
  clear g0 zs
  have hz : (s.extract 1 s.size).size = L := by rw [size_list, hd1, hL]
  have z1 : ((s.extract 1 s.size).size : Int) = (L : Int) := by omega
  have HC : Hid (1 < L → ∃ p : 0 < (s.extract 1 s.size).size, ((((s.extract 1 s.size)[0]'p).toNat : Int) == 48) = false) := by
    intro h9
    have hDl : 0 < D.length := by omega
    obtain ⟨p, g⟩ := at_get (s := (s.extract 1 s.size)) (i := 0) (b := D[0]) (by rw [hd1]; exact List.getElem?_eq_getElem hDl)
    refine ⟨p, ?_⟩
    have := dd_head0 n.natAbs (by rw [← hD, ← hL]; exact h9) (by rw [← hD]; exact hDl)
    simp only [← hD] at this
    rw [g]; simp; omega
  have HG : Hid (∀ p, p < L → ∃ (q : p < (s.extract 1 s.size).size) (hp : p < D.length), (s.extract 1 s.size)[p]'q = D[p]) := by
    intro p hp
    have hp2 : p < D.length := by omega
    obtain ⟨q, g⟩ := at_get (s := (s.extract 1 s.size)) (i := p) (b := D[p]) (by rw [hd1]; exact List.getElem?_eq_getElem hp2)
    exact ⟨q, hp2, g⟩
  have HD := hide hD
  have HL := hide hL
  clear hs hd1 hD hL hz
  go_enter Tryd.func32, Tryd.ntmps32
  by_cases h9 : 1 < L
  · obtain ⟨p1, c0⟩ := HC.out h9
    clear HC
    go_upto_region 9 with fail
    go_loopw [1, 6] (fun t i wr => ∃ (m : Int) (j : Nat), t = .int .i64 m ∧ i = .int .i64 ((j : Int) - 1) ∧ j ≤ L ∧ Hid (-9223372036854775808 ≤ m ∧ m ≤ 9223372036854775807) ∧ Hid ((0 < j → D.take j = Lib.decDigits m.natAbs) ∧ (j = 0 → m = 0)) ∧ wr = w) (fun _ i _ => (intOf i + 1).toNat)
    case atStart => exact ⟨n, L, rfl, rfl, Nat.le_refl _, ⟨h0, h1⟩, ⟨fun _ => by rw [List.take_of_length_le (by rw [← HL.out]; omega)]; exact HD.out, fun h => by omega⟩, rfl⟩
    case round =>
      obtain ⟨m, j, rfl, rfl, hj, HR, HP, rfl⟩ := hrel
      have hj0 : j = 0 ∨ ∃ p, j = p + 1 := by cases j with | zero => exact .inl rfl | succ p => exact .inr ⟨p, rfl⟩
      rcases hj0 with rfl | ⟨p, rfl⟩
      · have hm0 : m = 0 := HP.out.2 rfl
        subst hm0
        go_wp2_with fail
        go_ret
        exact ⟨rfl, rfl⟩
      · obtain ⟨q, hp, g⟩ := HG.out p (by omega)
        obtain ⟨e1, e2, e3⟩ := dd_step hp (HP.out.1 (by omega))
        have HN : Hid ((0 < p → D.take p = Lib.decDigits (m.tdiv 10).natAbs) ∧ (p = 0 → m.tdiv 10 = 0)) := ⟨fun h => by rw [tdiv_abs]; exact e2 h, fun h => by have h9 := e3 h; rw [← tdiv_abs] at h9; omega⟩
        have HR2 : Hid (-9223372036854775808 ≤ m.tdiv 10 ∧ m.tdiv 10 ≤ 9223372036854775807) := by have h9 := tdiv_abs m; have h8 := HR.out; show _ ∧ _; omega
        have w2 : IntKind.i64.wrap (m.tdiv 10) = m.tdiv 10 := IntWalk.i64_in _ HR2.out
        have g1 : (((s.extract 1 s.size)[p]'q).toNat : Int) = 48 + ((m.natAbs % 10 : Nat) : Int) := by rw [g, e1]; omega
        have hlt := Nat.mod_lt m.natAbs (show 0 < 10 by omega)
        have htm := tmod_abs m
        obtain ⟨c, hc⟩ : ∃ c, c = m.natAbs % 10 := ⟨_, rfl⟩
        rw [← hc] at g1 hlt htm
        have w3 : wrap64 (m.tdiv 10) = m.tdiv 10 := by have h9 := HR2.out; unfold wrap64; omega
        clear e1 e2 e3 hc g HR
        rcases htm with ⟨h8, h7⟩ | ⟨h8, h7⟩
        · have e4 : m.tmod 10 = -(c : Int) := by omega
          have e5 : (0 : Int) < (c : Int) := by omega
          have e6 : 0 < c := by omega
          clear h8 h7
          go_wp2_with fail
          go_roundw
          case rel => exact ⟨m.tdiv 10, p, rfl, by simp, by omega, HR2, HN, trivial⟩
          case measure => simp [intOf] <;> omega
        · clear h8
          go_wp2_with fail
          go_roundw
          case rel => exact ⟨m.tdiv 10, p, rfl, by simp, by omega, HR2, HN, trivial⟩
          case measure => simp [intOf] <;> omega
  · clear HC
    go_upto_region 9 with fail
    go_loopw [1, 6] (fun t i wr => ∃ (m : Int) (j : Nat), t = .int .i64 m ∧ i = .int .i64 ((j : Int) - 1) ∧ j ≤ L ∧ Hid (-9223372036854775808 ≤ m ∧ m ≤ 9223372036854775807) ∧ Hid ((0 < j → D.take j = Lib.decDigits m.natAbs) ∧ (j = 0 → m = 0)) ∧ wr = w) (fun _ i _ => (intOf i + 1).toNat)
    case atStart => exact ⟨n, L, rfl, rfl, Nat.le_refl _, ⟨h0, h1⟩, ⟨fun _ => by rw [List.take_of_length_le (by rw [← HL.out]; omega)]; exact HD.out, fun h => by omega⟩, rfl⟩
    case round =>
      obtain ⟨m, j, rfl, rfl, hj, HR, HP, rfl⟩ := hrel
      have hj0 : j = 0 ∨ ∃ p, j = p + 1 := by cases j with | zero => exact .inl rfl | succ p => exact .inr ⟨p, rfl⟩
      rcases hj0 with rfl | ⟨p, rfl⟩
      · have hm0 : m = 0 := HP.out.2 rfl
        subst hm0
        go_wp2_with fail
        go_ret
        exact ⟨rfl, rfl⟩
      · obtain ⟨q, hp, g⟩ := HG.out p (by omega)
        obtain ⟨e1, e2, e3⟩ := dd_step hp (HP.out.1 (by omega))
        have HN : Hid ((0 < p → D.take p = Lib.decDigits (m.tdiv 10).natAbs) ∧ (p = 0 → m.tdiv 10 = 0)) := ⟨fun h => by rw [tdiv_abs]; exact e2 h, fun h => by have h9 := e3 h; rw [← tdiv_abs] at h9; omega⟩
        have HR2 : Hid (-9223372036854775808 ≤ m.tdiv 10 ∧ m.tdiv 10 ≤ 9223372036854775807) := by have h9 := tdiv_abs m; have h8 := HR.out; show _ ∧ _; omega
        have w2 : IntKind.i64.wrap (m.tdiv 10) = m.tdiv 10 := IntWalk.i64_in _ HR2.out
        have g1 : (((s.extract 1 s.size)[p]'q).toNat : Int) = 48 + ((m.natAbs % 10 : Nat) : Int) := by rw [g, e1]; omega
        have hlt := Nat.mod_lt m.natAbs (show 0 < 10 by omega)
        have htm := tmod_abs m
        obtain ⟨c, hc⟩ : ∃ c, c = m.natAbs % 10 := ⟨_, rfl⟩
        rw [← hc] at g1 hlt htm
        have w3 : wrap64 (m.tdiv 10) = m.tdiv 10 := by have h9 := HR2.out; unfold wrap64; omega
        clear e1 e2 e3 hc g HR
        rcases htm with ⟨h8, h7⟩ | ⟨h8, h7⟩
        · have e4 : m.tmod 10 = -(c : Int) := by omega
          have e5 : (0 : Int) < (c : Int) := by omega
          have e6 : 0 < c := by omega
          clear h8 h7
          go_wp2_with fail
          go_roundw
          case rel => exact ⟨m.tdiv 10, p, rfl, by simp, by omega, HR2, HN, trivial⟩
          case measure => simp [intOf] <;> omega
        · clear h8
          go_wp2_with fail
          go_roundw
          case rel => exact ⟨m.tdiv 10, p, rfl, by simp, by omega, HR2, HN, trivial⟩
          case measure => simp [intOf] <;> omega

set_option maxHeartbeats 4000000 in
theorem digits_nn (n : Int) (s : ByteArray) (hs : s.data.toList = Lib.itoa n) (h0 : -9223372036854775808 ≤ n) (h1 : n ≤ 9223372036854775807) (hn : ¬ n < 0) (w : World) :
    Calls Tryd.prog 32 #[.string s, .int .i64 n] w fun e w' => e = .returned (.bool true) ∧ w' = w := by
  rw [itoa_nn hn] at hs
  obtain ⟨D, hD⟩ : ∃ D, D = Lib.decDigits n.natAbs := ⟨_, rfl⟩
  rw [← hD] at hs
  obtain ⟨L, hL⟩ : ∃ L, L = D.length := ⟨_, rfl⟩
  have hLp : 0 < L := by rw [hL, hD]; exact dd_pos _
  have hL20 : L ≤ 20 := by rw [hL, hD]; exact dd_len _ (by omega)
  have hd1 : s.data.toList = D := hs
  obtain ⟨p0, g0⟩ := at_get (s := s) (i := 0) (b := D[0]'(by omega)) (by rw [hs]; exact List.getElem?_eq_getElem (by omega))
  have i0 : (((s[0]'p0).toNat : Int) == 45) = false := by
    have := dd_mem n.natAbs (D[0]'(by omega)) (by rw [← hD]; exact List.getElem_mem _)
    rw [g0]; simp; omega
  have l2 : ¬ ((L : Int) < 1) := by omega
  clear g0
  have hz : s.size = L := by rw [size_list, hd1, hL]
  have z1 : (s.size : Int) = (L : Int) := by omega
  have HC : Hid (1 < L → ∃ p : 0 < s.size, (((s[0]'p).toNat : Int) == 48) = false) := by
    intro h9
    have hDl : 0 < D.length := by omega
    obtain ⟨p, g⟩ := at_get (s := s) (i := 0) (b := D[0]) (by rw [hd1]; exact List.getElem?_eq_getElem hDl)
    refine ⟨p, ?_⟩
    have := dd_head0 n.natAbs (by rw [← hD, ← hL]; exact h9) (by rw [← hD]; exact hDl)
    simp only [← hD] at this
    rw [g]; simp; omega
  have HG : Hid (∀ p, p < L → ∃ (q : p < s.size) (hp : p < D.length), s[p]'q = D[p]) := by
    intro p hp
    have hp2 : p < D.length := by omega
    obtain ⟨q, g⟩ := at_get (s := s) (i := p) (b := D[p]) (by rw [hd1]; exact List.getElem?_eq_getElem hp2)
    exact ⟨q, hp2, g⟩
  have HD := hide hD
  have HL := hide hL
  clear hs hd1 hD hL hz
  go_enter Tryd.func32, Tryd.ntmps32
  by_cases h9 : 1 < L
  · obtain ⟨p1, c0⟩ := HC.out h9
    clear HC
    go_upto_region 9 with fail
    go_loopw [1, 6] (fun t i wr => ∃ (m : Int) (j : Nat), t = .int .i64 m ∧ i = .int .i64 ((j : Int) - 1) ∧ j ≤ L ∧ Hid (-9223372036854775808 ≤ m ∧ m ≤ 9223372036854775807) ∧ Hid ((0 < j → D.take j = Lib.decDigits m.natAbs) ∧ (j = 0 → m = 0)) ∧ wr = w) (fun _ i _ => (intOf i + 1).toNat)
    case atStart => exact ⟨n, L, rfl, rfl, Nat.le_refl _, ⟨h0, h1⟩, ⟨fun _ => by rw [List.take_of_length_le (by rw [← HL.out]; omega)]; exact HD.out, fun h => by omega⟩, rfl⟩
    case round =>
      obtain ⟨m, j, rfl, rfl, hj, HR, HP, rfl⟩ := hrel
      have hj0 : j = 0 ∨ ∃ p, j = p + 1 := by cases j with | zero => exact .inl rfl | succ p => exact .inr ⟨p, rfl⟩
      rcases hj0 with rfl | ⟨p, rfl⟩
      · have hm0 : m = 0 := HP.out.2 rfl
        subst hm0
        go_wp2_with fail
        go_ret
        exact ⟨rfl, rfl⟩
      · obtain ⟨q, hp, g⟩ := HG.out p (by omega)
        obtain ⟨e1, e2, e3⟩ := dd_step hp (HP.out.1 (by omega))
        have HN : Hid ((0 < p → D.take p = Lib.decDigits (m.tdiv 10).natAbs) ∧ (p = 0 → m.tdiv 10 = 0)) := ⟨fun h => by rw [tdiv_abs]; exact e2 h, fun h => by have h9 := e3 h; rw [← tdiv_abs] at h9; omega⟩
        have HR2 : Hid (-9223372036854775808 ≤ m.tdiv 10 ∧ m.tdiv 10 ≤ 9223372036854775807) := by have h9 := tdiv_abs m; have h8 := HR.out; show _ ∧ _; omega
        have w2 : IntKind.i64.wrap (m.tdiv 10) = m.tdiv 10 := IntWalk.i64_in _ HR2.out
        have g1 : ((s[p]'q).toNat : Int) = 48 + ((m.natAbs % 10 : Nat) : Int) := by rw [g, e1]; omega
        have hlt := Nat.mod_lt m.natAbs (show 0 < 10 by omega)
        have htm := tmod_abs m
        obtain ⟨c, hc⟩ : ∃ c, c = m.natAbs % 10 := ⟨_, rfl⟩
        rw [← hc] at g1 hlt htm
        have w3 : wrap64 (m.tdiv 10) = m.tdiv 10 := by have h9 := HR2.out; unfold wrap64; omega
        clear e1 e2 e3 hc g HR
        rcases htm with ⟨h8, h7⟩ | ⟨h8, h7⟩
        · have e4 : m.tmod 10 = -(c : Int) := by omega
          have e5 : (0 : Int) < (c : Int) := by omega
          have e6 : 0 < c := by omega
          clear h8 h7
          go_wp2_with fail
          go_roundw
          case rel => exact ⟨m.tdiv 10, p, rfl, by simp, by omega, HR2, HN, trivial⟩
          case measure => simp [intOf] <;> omega
        · clear h8
          go_wp2_with fail
          go_roundw
          case rel => exact ⟨m.tdiv 10, p, rfl, by simp, by omega, HR2, HN, trivial⟩
          case measure => simp [intOf] <;> omega
  · clear HC
    go_upto_region 9 with fail
    go_loopw [1, 6] (fun t i wr => ∃ (m : Int) (j : Nat), t = .int .i64 m ∧ i = .int .i64 ((j : Int) - 1) ∧ j ≤ L ∧ Hid (-9223372036854775808 ≤ m ∧ m ≤ 9223372036854775807) ∧ Hid ((0 < j → D.take j = Lib.decDigits m.natAbs) ∧ (j = 0 → m = 0)) ∧ wr = w) (fun _ i _ => (intOf i + 1).toNat)
    case atStart => exact ⟨n, L, rfl, rfl, Nat.le_refl _, ⟨h0, h1⟩, ⟨fun _ => by rw [List.take_of_length_le (by rw [← HL.out]; omega)]; exact HD.out, fun h => by omega⟩, rfl⟩
    case round =>
      obtain ⟨m, j, rfl, rfl, hj, HR, HP, rfl⟩ := hrel
      have hj0 : j = 0 ∨ ∃ p, j = p + 1 := by cases j with | zero => exact .inl rfl | succ p => exact .inr ⟨p, rfl⟩
      rcases hj0 with rfl | ⟨p, rfl⟩
      · have hm0 : m = 0 := HP.out.2 rfl
        subst hm0
        go_wp2_with fail
        go_ret
        exact ⟨rfl, rfl⟩
      · obtain ⟨q, hp, g⟩ := HG.out p (by omega)
        obtain ⟨e1, e2, e3⟩ := dd_step hp (HP.out.1 (by omega))
        have HN : Hid ((0 < p → D.take p = Lib.decDigits (m.tdiv 10).natAbs) ∧ (p = 0 → m.tdiv 10 = 0)) := ⟨fun h => by rw [tdiv_abs]; exact e2 h, fun h => by have h9 := e3 h; rw [← tdiv_abs] at h9; omega⟩
        have HR2 : Hid (-9223372036854775808 ≤ m.tdiv 10 ∧ m.tdiv 10 ≤ 9223372036854775807) := by have h9 := tdiv_abs m; have h8 := HR.out; show _ ∧ _; omega
        have w2 : IntKind.i64.wrap (m.tdiv 10) = m.tdiv 10 := IntWalk.i64_in _ HR2.out
        have g1 : ((s[p]'q).toNat : Int) = 48 + ((m.natAbs % 10 : Nat) : Int) := by rw [g, e1]; omega
        have hlt := Nat.mod_lt m.natAbs (show 0 < 10 by omega)
        have htm := tmod_abs m
        obtain ⟨c, hc⟩ : ∃ c, c = m.natAbs % 10 := ⟨_, rfl⟩
        rw [← hc] at g1 hlt htm
        have w3 : wrap64 (m.tdiv 10) = m.tdiv 10 := by have h9 := HR2.out; unfold wrap64; omega
        clear e1 e2 e3 hc g HR
        rcases htm with ⟨h8, h7⟩ | ⟨h8, h7⟩
        · have e4 : m.tmod 10 = -(c : Int) := by omega
          have e5 : (0 : Int) < (c : Int) := by omega
          have e6 : 0 < c := by omega
          clear h8 h7
          go_wp2_with fail
          go_roundw
          case rel => exact ⟨m.tdiv 10, p, rfl, by simp, by omega, HR2, HN, trivial⟩
          case measure => simp [intOf] <;> omega
        · clear h8
          go_wp2_with fail
          go_roundw
          case rel => exact ⟨m.tdiv 10, p, rfl, by simp, by omega, HR2, HN, trivial⟩
          case measure => simp [intOf] <;> omega

-- END DIGITS

end Go.Proofs.YtbnppocaeflghaaDoor
