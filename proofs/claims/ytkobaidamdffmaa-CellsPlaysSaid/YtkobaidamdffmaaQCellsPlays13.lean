/- cells: put, bit; append of a string onto bytes; bytes as a buffer. -/
import Derived.Test.YtkobaidamdffmaaQCellsPlays05
import Derived.Lib.AppendStr

namespace Go.Proofs.Ytkobaidamdffmaa
open Go.RowKit Go.Lib
set_option linter.unusedVariables false
set_option linter.unusedSimpArgs false

theorem strCells_of (D : List Int) (h8 : Bytes8 D) : strCells (strOfNums D) = bys D := by
  unfold strCells
  rw [strOfNums_data, List.map_map, bys_map]
  refine List.map_congr_left fun c hc => ?_
  have := h8 c hc
  simp
  omega
/-- append of a string's bytes -/
theorem run_app_str {P : Program} {w : World} {t u e : Nat} (T : SlTy P t e 1 1 (.int .u8 0)) (hu : P.underlying u = some .string) (ty base : Nat) {v : Value} {n : Nat} {xs : List Value} (s : ByteArray) (hv : Own w base e 1 v n xs)
    (hm : n + s.size ≤ 140737488355328) (hbase : base ≤ w.heap.size) :
    ∃ v' w', (Builtin.append_ #[t, u] ty #[v, .string s]).run P w = .ok v' w' ∧ App w base e 1 v (n + s.size) (xs ++ strCells s) v' w' := by
  obtain ⟨i, hi, hz, hsz, hb⟩ := T.hi
  have hxl : xs.length = n := by simpa using hv.1
  have hlen : (xs ++ strCells s).length = (n + s.size) * 1 := by rw [List.length_append, hxl, strCells_length, Nat.mul_one]
  have grown : ∀ (old : Nat), old < n + s.size → ∀ (S : Nat → Prop),
      Own (w.drew.alloc (.cells (xs.toArray ++ (strCells s).toArray ++ Builtin.zeroCells (Value.int .u8 0).cells (grownCap w (n + s.size) old e - (n + s.size))) e)) base e 1
        (.slice (some ⟨w.heap.size, 0, none⟩) (n + s.size) (grownCap w (n + s.size) old e)) (n + s.size) (xs ++ strCells s) ∧
      Fr S w (w.drew.alloc (.cells (xs.toArray ++ (strCells s).toArray ++ Builtin.zeroCells (Value.int .u8 0).cells (grownCap w (n + s.size) old e - (n + s.size))) e)) := by
    intro old ho S
    have hge := grownCap_ge w (n + s.size) old e
    have hcm : grownCap w (n + s.size) old e ≤ maxLen := grownCap_le_maxLen w (n + s.size) old e (by unfold maxLen; omega)
    refine ⟨⟨hlen, .inr ⟨w.heap.size, _, _, rfl, hbase, heap_alloc_new w.drew _, hge, hcm, ?_, ?_⟩⟩, (Fr.refl S w).drew.alloc _⟩
    · simp only [Array.size_append, List.size_toArray, size_zeroCells, T.hz, hxl, strCells_length]
      omega
    · simp only [Array.toList_append, List.append_assoc]
      rw [← List.append_assoc, ← hlen]
      exact List.take_left
  by_cases hm0 : s.size = 0
  · have hn : strCells s = [] := List.eq_nil_of_length_eq_zero (by rw [strCells_length, hm0])
    have hrun : (Builtin.append_ #[t, u] ty #[v, .string s]).run P w = .ok v w := by
      rcases hv.2 with ⟨rfl, rfl⟩ | ⟨g, cap, cur, rfl, _, _, hnc, _⟩ <;>
        simp [Builtin.append_, run_underlying T.ht, run_underlying hu, sizeOf, typeInfo, hi, Builtin.lenOf, Builtin.firstCells, storeCells, *]
    refine ⟨v, w, hrun, ?_, Fr.refl _ _, .inl rfl⟩
    rw [hn, List.append_nil, hm0, Nat.add_zero]
    exact hv
  · rcases hv.2 with ⟨rfl, rfl⟩ | ⟨g, cap, cur, rfl, hbg, hg, hnc, hcm, hcs, htake⟩
    · have hx0 : xs = [] := List.eq_nil_of_length_eq_zero (by simpa using hv.1)
      subst hx0
      have hr := run_append_nil_string (P := P) w t u ty e i _ T.ht hu hi hz s (by omega) (by omega) (by rw [hb]; omega)
      have hgr := grown 0 (by omega) (fun k => (Value.slice none 0 0).ownBlock = some k)
      simp only [Nat.zero_add, List.nil_append, Array.empty_append] at hgr ⊢
      have hsd : s.data.map (fun b => Value.int .u8 b.toNat) = (strCells s).toArray := by
        apply Array.ext'
        simp [strCells]
      rw [hsd] at hr
      exact ⟨_, _, hr, hgr.1, hgr.2, Or.inr rfl⟩
    · by_cases hroom : n + s.size ≤ cap
      · have hfit : n + s.size ≤ cur.size := by omega
        have hr := run_append_room_string (P := P) w t u ty e i T.ht hu hi hsz g n cap cur hg s hroom hfit
        refine ⟨_, _, hr, ⟨hlen, .inr ⟨g, cap, _, rfl, hbg, setRow_heap w g cur _ e _ hg, hroom, hcm, ?_, ?_⟩⟩, ⟨rfl, rfl, rfl, by simp, fun k _ hk => setRow_other w g k _ (fun e => hk (by simp [Value.ownBlock, e]))⟩, Or.inl rfl⟩
        · simp only [List.size_toArray, List.length_append, List.length_take, List.length_drop, Array.length_toList, strCells_length]
          omega
        · have ht2 : cur.toList.take n = xs := by rw [← htake, Nat.mul_one]
          rw [ht2, ← hlen]
          exact List.take_left
      · have holds : ∀ j u, xs[j]? = some u → w.cell? ((⟨g, 0, none⟩ : Addr).add j) = some u := hv.cells (g := g) rfl
        have hr := run_append_grow_string (P := P) w t u ty e i _ T.ht hu hi hz ⟨g, 0, none⟩ n cap xs (by rw [hsz]; exact hv.1) holds s (by omega) (by omega) (growslice_fits (by omega) (by rw [hb]; omega))
        have hgr := grown cap (by omega) (fun k => (Value.slice (some ⟨g, 0, none⟩) n cap).ownBlock = some k)
        exact ⟨_, _, hr, hgr.1, hgr.2, Or.inr rfl⟩
theorem wp_app_str {P : Program} {w : World} {t u e : Nat} {ops : Array Oper} {o : Oper} {a : Act} {Q : Exit → Act → World → Prop} {K : Act → World → Prop} {E : Prop} (hgd : o.guard = none) (T : SlTy P t e 1 1 (.int .u8 0)) (hu : P.underlying u = some .string) (s x : Operand) (ho : o.op = .call { callee := .builtin .append, args := #[s, x], argTypes := #[t, u] })
    (base : Nat) {v : Value} {n : Nat} {xs : List Value} {b : ByteArray} (hs : a.eval s = v) (hxv : a.eval x = .string b) (hv : Own w base e 1 v n xs)
    (hm : n + b.size ≤ 140737488355328) (hbase : base ≤ w.heap.size)
    (h : ∀ v' w', App w base e 1 v (n + b.size) (xs ++ strCells b) v' w' → K (a.put o.dst v') w') : if Region.wanted o (yielded ops a.tmps) = true then Oper.wp P o a w K Q else E := by
  have hw : Region.wanted o (yielded ops a.tmps) = true := by simp [Region.wanted, hgd]
  rw [if_pos hw]
  obtain ⟨v', w', hr, h2⟩ := run_app_str T hu o.type base b hv hm hbase
  unfold Oper.wp execOp
  simp only [ho, resolve, invoke, builtin, Sem.run_bind, Sem.run_pure, Result.andThen_ok, List.map_toArray, List.map_cons, List.map_nil, hs, hxv, hr]
  exact h v' w' h2

/-- a number in so many bytes, the greatest first -/
def beN (n : Int) : Nat → List Int
  | 0 => []
  | c + 1 => (n / 256 ^ c) % 256 :: beN n c
theorem beN_len (n : Int) : ∀ c, (beN n c).length = c
  | 0 => rfl
  | c + 1 => by rw [beN, List.length_cons, beN_len n c]
theorem beN_8 (n : Int) : ∀ c, Bytes8 (beN n c)
  | 0 => fun _ h => by cases h
  | c + 1 => fun x hx => by
    rcases List.mem_cons.1 hx with rfl | h
    · omega
    · exact beN_8 n c x h

/-- a buffer of bytes that the call made behind w holds E -/
structure BufI (w X : World) (v : Value) (E : List Int) : Prop where
  own : Own X w.heap.size bT 1 v E.length (bys E)
  bl : Below w.heap.size w X
/-- all but bytes stand -/
def Bt (w w' : World) : Prop := (∀ (g t : Nat) (cs : Array Value) (fr : Nat × Nat), t ≠ bT → w.heap[g]? = some (.cells cs t fr) → w'.heap[g]? = some (.cells cs t fr)) ∧ w.heap.size ≤ w'.heap.size
theorem Bt.refl (w : World) : Bt w w := ⟨fun _ _ _ _ _ h => h, Nat.le_refl _⟩
theorem Bt.trans {w w1 w2 : World} (h : Bt w w1) (k : Bt w1 w2) : Bt w w2 := ⟨fun g t cs fr h1 hb => k.1 g t cs fr h1 (h.1 g t cs fr h1 hb), Nat.le_trans h.2 k.2⟩
theorem Bt.below {w w' : World} (h : Below w.heap.size w w') : Bt w w' := ⟨fun g t cs fr _ hb => ((Fr.of_below (S := nob) h).block g (Array.getElem?_eq_some_iff.1 hb).1 id).trans hb, h.size⟩
theorem Bt.blk {w w' : World} (h : Bt w w') {g t : Nat} {cs : Array Value} (hb : Blk w g t cs) (ht : t ≠ bT) : Blk w' g t cs := h.1 g t cs _ ht hb
theorem Bt.own {w w' : World} (h : Bt w w') {base e sz n : Nat} {v : Value} {xs : List Value} (ho : Own w base e sz v n xs) (he : e ≠ bT) : Own w' base e sz v n xs := by
  refine ho.to fun g hg => ?_
  obtain ⟨cs, hc⟩ := ho.typed g hg
  have h2 := h.1 g e cs _ he hc
  unfold Blk at hc
  rw [hc, h2]
theorem BufI.below {w X Y : World} {v : Value} {E : List Int} (h : BufI w X v E) (hb : Below X.heap.size X Y) : BufI w Y v E := ⟨h.own.below hb, h.bl.trans (hb.mono h.bl.size)⟩
theorem BufI.app {w X Y : World} {v v' : Value} {E F : List Int} {n : Nat} (h : BufI w X v E) (hn : n = F.length) (ha : App X w.heap.size bT 1 v (E.length + n) (bys E ++ bys F) v' Y) : BufI w Y v' (E ++ F) ∧ Bt X Y := by
  subst hn
  refine ⟨⟨?_, h.bl.trans (ha.fr.below h.bl.size (fun k hk h9 => by have := (h.own.lt k h9).1; omega))⟩, ⟨fun g t cs fr ht hg => ?_, ha.fr.size⟩⟩
  · rw [List.length_append, bys_app]
    exact ha.own
  · refine (ha.fr.block g (Array.getElem?_eq_some_iff.1 hg).1 (fun e => ?_)).trans hg
    obtain ⟨c2, k2⟩ := h.own.typed g e
    unfold Blk at k2
    rw [hg] at k2
    injection k2 with k2
    injection k2 with _ k2
    exact ht k2
set_option maxRecDepth 100000 in
set_option maxHeartbeats 4000000 in
theorem put_any (w X : World) (v : Value) (E : List Int) (n : Int) (c : Nat) (h : BufI w X v E) (hn : 0 ≤ n ∧ n < 9223372036854775808) (hc : c ≤ 8) (hE : E.length ≤ 70368744177664) :
    Calls Try.prog 39 #[v, .int .i64 n, .int .i64 c] X fun e w' => ∃ v', e = .returned v' ∧ BufI w w' v' (E ++ beN n c) ∧ Bt X w' := by
  have HH := hide h
  have hz := h.bl.size
  clear h
  have HN := hide hn
  go_enter Try.func39, Try.ntmps39
  go_wp2_with fail
  go_loopw [0, 7] (fun v i wr => ∃ (k : Nat) (F : List Int), k ≤ c ∧ i = .int .i64 ((k : Int) - 1) ∧ F.length + k = c ∧ Hid (F ++ beN n k = beN n c) ∧ Hid (BufI w wr v (E ++ F) ∧ Bt X wr)) (fun _ i _ => (intOf i + 1).toNat)
  case atStart => exact ⟨c, [], Nat.le_refl _, rfl, by simp, by simp [Hid], by simpa using HH.out, Bt.refl _⟩
  case round =>
    obtain ⟨k, F, hk, rfl, hl, HF, HI⟩ := hrel
    cases k with
    | zero =>
      clear HH hz
      go_wp2_with fail
      go_ret
      have h9 := HF.out
      rw [beN, List.append_nil] at h9
      rw [← h9]
      exact ⟨_, rfl, HI.out.1, HI.out.2⟩
    | succ k =>
      rw [show (((k + 1 : Nat) : Int) - 1) = (k : Int) by omega]
      have hk8 : 8 * (k : Int) ≤ 56 := by omega
      obtain ⟨uA, uc, rfl, huc⟩ := HI.out.1.own.sl.form
      obtain ⟨m, hm⟩ : ∃ m, m = (E ++ F).length := ⟨_, rfl⟩
      have hml : m ≤ 70368744177664 + 8 := by rw [hm, List.length_append]; omega
      rw [← hm] at huc
      have HIF : Hid (BufI w wr (.slice uA m uc) (E ++ F) ∧ Bt X wr) := by rw [hm]; exact HI.out
      rw [← hm]
      have HM := hide hm
      have hzr := HI.out.1.bl.size
      clear hm HI HH hz
      have HSL : Hid (∀ (W : World) (y : Int), Sl (W.alloc (.cells #[.int .u8 y] bT)) (W.heap.size + 1) (.slice (some ⟨W.heap.size, 0, none⟩) 1 1) 1 1 (bys [y])) := fun W y =>
        Sl.of_own (Own.new (n := 1) (sz := 1) (e := bT) (base := 0) W #[.int .u8 y] (by omega) (by omega) rfl) |>.mono (by simp)
      have HIA : Hid (∀ cs, BufI w (wr.alloc (.cells cs bT)) (.slice uA m uc) (E ++ F) ∧ Bt X (wr.alloc (.cells cs bT))) := fun cs => ⟨HIF.out.1.below ((Below.refl _ _).alloc (Nat.le_refl _) _), HIF.out.2.trans (Bt.below ((Below.refl _ _).alloc (Nat.le_refl _) _))⟩
      have HOA : Hid (∀ cs, Own (wr.alloc (.cells cs bT)) w.heap.size bT 1 (.slice uA m uc) m (bys (E ++ F))) := fun cs => by have h9 := (HIA.out cs).1.own; rw [← HM.out] at h9; exact h9
      go_wp2_with (at_builtin; refine wpList_app rfl tyB (.tmp 14) (.tmp 20) rfl w.heap.size (n := m) (m := 1) (B := wr.heap.size + 1) (xs := bys (E ++ F)) (news := bys [n / 2 ^ (8 * k) % 256]) rfl rfl (by exact HOA.out _) (by exact HSL.out wr _) (bys_ok _) (by omega) (by omega) (by simp; omega) ?_)
      intro v5 w5 ha5
      have HI5 : Hid (BufI w w5 v5 (E ++ (F ++ [n / 2 ^ (8 * k) % 256])) ∧ Bt X w5) := by
        rw [HM.out] at ha5
        have h9 := BufI.app (F := [n / 2 ^ (8 * k) % 256]) (HIA.out _).1 rfl (by rw [HM.out]; exact ha5)
        rw [← List.append_assoc]
        exact ⟨h9.1, (HIA.out _).2.trans h9.2⟩
      have HF5 : Hid ((F ++ [n / 2 ^ (8 * k) % 256]) ++ beN n k = beN n c) := by
        have h9 := HF.out
        rw [beN] at h9
        show _ = _
        rw [← h9, List.append_assoc, List.singleton_append]
        congr 2
        rw [show (2 : Int) ^ (8 * k) = 256 ^ k by rw [Int.pow_mul]; rfl]
      clear ha5 HIA HIF HSL HF HOA
      go_wp2_with fail
      go_roundw
      case rel => exact ⟨k, F ++ [n / 2 ^ (8 * k) % 256], by omega, rfl, by simp; omega, HF5, HI5⟩
      case measure => simp [intOf]
theorem bit_any (b : Bool) (X : World) : Calls Try.prog 40 #[.bool b] X fun e w' => e = .returned (.int .u8 (if b then 1 else 0)) ∧ Below X.heap.size X w' := by
  cases b
  · go_enter Try.func40, Try.ntmps40
    go_wp2_with fail
    go_ret
    exact ⟨rfl, Below.refl _ _⟩
  · go_enter Try.func40, Try.ntmps40
    go_wp2_with fail
    go_ret
    exact ⟨rfl, Below.refl _ _⟩
end Go.Proofs.Ytkobaidamdffmaa
