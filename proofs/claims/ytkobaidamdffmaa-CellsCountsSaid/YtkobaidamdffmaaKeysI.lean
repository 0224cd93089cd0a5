/- cells: maps.Keys of a table's map, for every loop body. -/
import Derived.Test.YtkobaidamdffmaaSortP
import Derived.Sort.MapsRangeIn
import Derived.RangeFuncNested
import Derived.RangeFuncGives
import Derived.Maps.AppendAt
import Derived.Shelf.Abstract
import Derived.TacticsInMore
import Derived.RegionIn
import Derived.LoopNIn
import Derived.LoopIn
namespace Go.Proofs.Ytkobaidamdffmaa
open Go.RowKit Go.Sort
set_option linter.unusedVariables false
set_option linter.unusedSimpArgs false

theorem Fr.grown {r : Nat} {w w' : World} (h : Fr (fun j => j = r) w w') : w.grownBy w' (some r) := ⟨h.os, h.tape, h.output, h.size, fun k hk hn => h.block k hk (fun e => hn (by rw [e]))⟩
section
variable {α β : Type} {K : α → Value} {V : β → Value} {w w' : World} {b r : Nat} {L D : List (α × β)}
theorem ItR.of_walks (h : ItR w b r K V L D) (hk : KeepsWalks w w') : ItR w' b r K V L D := by
  obtain ⟨es, clock, since, seen, c0, I, hb, h1, h2, hr, h3⟩ := h
  exact ⟨es, clock, since, seen, c0, I, hk.same b _ hb rfl, h1, h2, hk.same r _ hr rfl, h3⟩
theorem ItR.iter_walk (h : ItR w b r K V L D) : ∃ o : Obj, w.heap[r]? = some o ∧ o.isWalk = true := by
  obtain ⟨es, clock, since, seen, c0, I, hb, h1, h2, hr, h3⟩ := h
  exact ⟨_, hr, rfl⟩
variable {F : Fence} {n : Nat} {P : Program} {t k e : TypeId} {ops : Array Oper} {rest : List Oper} {o : Oper} {a : Act} {Q : Exit → Act → World → Prop}
theorem wpListIn_range_it (hg : o.guard = none) (m : Operand) (hop : o.op = Op.range t m) (ht : P.underlying t = some (.map k e)) (hm : a.eval m = .map (some b)) (h : MapR w b K V L)
    (hK : ∀ ob, ItR (w.alloc ob) b w.heap.size K V L [] → wpListIn F n P ops Q rest (a.put o.dst (.pointer (some ⟨w.heap.size, 0, none⟩))) (w.alloc ob)) : wpListIn F n P ops Q (o :: rest) a w := by
  refine wpListIn_plain hg fun K' hK' => ?_
  obtain ⟨ob, hrun, hi⟩ := h.range ht
  unfold Oper.wpIn
  refine ⟨?_, ?_⟩
  · simp [Oper.about, hop]
  · rw [Oper.semAt_plain F _ _ (by rw [hop]; intro c hc'; cases hc')]
    simp [execOp, hop, hm, hrun, Result.andThen]
    exact hK' _ _ (hK ob hi)
theorem wpListIn_next_it (hg : o.guard = none) (it : Operand) (hop : o.op = Op.next it false) (hit : a.eval it = .pointer (some ⟨r, 0, none⟩)) (h : ItR w b r K V L D)
    (hDone : L.Perm D → wpListIn F n P ops Q rest (a.put o.dst (.tuple #[.bool false])) w)
    (hMore : ∀ w' kv vv, ItStep P w b r K V L D w' kv vv → wpListIn F n P ops Q rest (a.put o.dst (.tuple #[.bool true, kv, vv])) w') : wpListIn F n P ops Q (o :: rest) a w := by
  refine wpListIn_plain hg fun K' hK' => ?_
  unfold Oper.wpIn
  refine ⟨by simp [Oper.about, hop], ?_⟩
  rw [Oper.semAt_plain F _ _ (by rw [hop]; intro c hc'; cases hc')]
  rcases h.next (P := P) o.type with ⟨h0, hrun⟩ | ⟨p, w', hp, hrun, hi, hlt, hf, hsz, hen⟩
  · simp [execOp, hop, hit, hrun, Result.andThen]
    exact hK' _ _ (hDone h0)
  · simp [execOp, hop, hit, hrun, Result.andThen]
    exact hK' _ _ (hMore w' _ _ ⟨p, rfl, rfl, hp, hi, hlt, hf, hsz, hen⟩)
end

set_option maxRecDepth 100000 in
set_option maxHeartbeats 2000000 in
theorem pkeys1_in (n : Nat) (hn : 1 ≤ n) (l Bm b : Nat) (L : List (PK × CV)) (J Jx : List PK → World → Prop)
    (hY : ∀ pre x W, J pre W → pre.length < L.length → YieldAt Fence.wide (n - 1) Try.prog l #[plV x] W fun e W' => (e = .returned (.bool true) ∧ J (pre ++ [x]) W' ∧ KeepsWalks W W') ∨ (e = .returned (.bool false) ∧ Jx (pre ++ [x]) W'))
    (W : World) (hJ : AbidesFrom W.heap.size J) (hm : W.cell? ⟨Bm, 0, none⟩ = some (.map (some b))) (hown : MapR W b plV cvV L) (h0 : J [] W) :
    CallsIn Fence.wide n Try.prog 79 #[.func (.yield l) #[] #[], .pointer (some ⟨Bm, 0, none⟩)] W fun e W' => (∃ v, e = .returned v) ∧ ((∃ ss : List PK, ss.Perm (L.map (·.1)) ∧ J ss W') ∨ (∃ pre : List PK, Jx pre W')) := by
  refine callsIn_of_wp Try.func79 rfl trivial ?_ rfl
  simp only [Try.ntmps79, List.size_toArray, List.length_cons, List.length_nil, Nat.reduceAdd, Nat.reduceSub, Array.replicate_succ, Array.replicate_zero, List.push_toArray, List.append_toArray, List.nil_append, List.cons_append]
  have HM := hide hown
  have HJ := hide hJ
  have HY := hide hY
  have H0 := hide h0
  clear hown hJ hY h0
  gi_wp2_with (first
    | (gi_at_range; refine wpListIn_range_it rfl _ rfl cmU rfl HM.out ?_; intro ob hI0)
    | gi_in)
  go_frame
  have HI0 : Hid (ItR (W.alloc ob) b W.heap.size plV cvV L [] ∧ J [] (W.alloc ob)) := ⟨hI0, HJ.out [] W _ none H0.out (World.grownBy_alloc W ob none) (fun r e => by cases e)⟩
  clear hI0
  gi_loopw [3] (fun _ wr => ∃ D : List (PK × CV), Hid (ItR wr b W.heap.size plV cvV L D ∧ J (D.map (·.1)) wr)) (fun _ wr => itLeft wr b W.heap.size)
  case atStart => exact ⟨[], HI0.out⟩
  case round =>
    obtain ⟨D, HI⟩ := hrel
    gi_wp2_with (first
      | (gi_at_next; refine wpListIn_next_it rfl _ rfl rfl HI.out.1 ?_ ?_)
      | gi_in)
    · intro hp
      have HR : Hid ((D.map (·.1)).Perm (L.map (·.1)) ∧ J (D.map (·.1)) wr) := ⟨(hp.map _).symm, HI.out.2⟩
      clear hp
      gi_wp2
      go_end0
      exact ⟨⟨_, rfl⟩, .inl ⟨_, HR.out⟩⟩
    · intro w2 kv vv hst
      obtain ⟨p, hkv, hvv, hp, hI2, hlt, hf2, hsz, hen⟩ := hst
      obtain ⟨⟨pk, pf, pt, pok⟩, pc⟩ := p
      have hkv2 : kv = .agg #[.string (strOfNums pk), .int .i64 pf, .int .i64 pt] := hkv
      clear hkv hvv hp
      subst hkv2
      have HK2 : Hid (Blk (w2.alloc (.cells #[.string (strOfNums pk), .int .i64 pf, .int .i64 pt] plT)) w2.heap.size plT #[.string (strOfNums pk), .int .i64 pf, .int .i64 pt]) := Blk.new w2 _ _
      have HI2 : Hid (ItR (w2.alloc (.cells #[.string (strOfNums pk), .int .i64 pf, .int .i64 pt] plT)) b W.heap.size plV cvV L (D ++ [(⟨pk, pf, pt, pok⟩, pc)])) := hI2.below ((Below.refl _ _).alloc (Nat.le_refl _) _) hI2.lt.1 hI2.lt.2
      have hJ2 : J (D.map (·.1)) (w2.alloc (.cells #[.string (strOfNums pk), .int .i64 pf, .int .i64 pt] plT)) := HJ.out _ w2 _ none (HJ.out _ wr w2 (some W.heap.size) HI.out.2 hf2.grown (fun r e => by cases e; exact ⟨Nat.le_refl _, HI.out.1.iter_walk⟩)) (World.grownBy_alloc _ _ none) (fun r e => by cases e)
      obtain ⟨fn, tmps, assign, body, hy, hR⟩ := HY.out (D.map (·.1)) ⟨pk, pf, pt, pok⟩ _ hJ2 (by rw [List.length_map]; exact hlt)
      have hy2 : (Instr.yield l #[.agg #[.string (strOfNums pk), .int .i64 pf, .int .i64 pt]]).run Try.prog (w2.alloc (.cells #[.string (strOfNums pk), .int .i64 pf, .int .i64 pt] plT)) = .ok (.round l fn tmps assign body) (w2.alloc (.cells #[.string (strOfNums pk), .int .i64 pf, .int .i64 pt] plT)) := hy
      have HR := hide hR
      have HLT := hide hlt
      have HL1 := hide HI.out.1.left_eq
      clear hI2 hlt hf2 hsz hJ2 hy hR
      gi_wp2
      refine HR.out.mono ?_
      rintro e W3 (⟨rfl, hJ3, hk3⟩ | ⟨rfl, hJx3⟩)
      · have HI3 : Hid (ItR W3 b W.heap.size plV cvV L (D ++ [(⟨pk, pf, pt, pok⟩, pc)]) ∧ J ((D ++ [((⟨pk, pf, pt, pok⟩ : PK), pc)]).map (·.1)) W3) := ⟨HI2.out.of_walks hk3, by rw [List.map_append]; exact hJ3⟩
        have HME : Hid (itLeft W3 b W.heap.size < itLeft wr b W.heap.size) := by
          rw [Hid, HI3.out.1.left_eq, HL1.out, List.length_append]
          have := HLT.out
          simp only [List.length_cons, List.length_nil]
          omega
        clear hJ3 hk3 hy2
        gi_wp2
        go_roundw
        case rel => exact ⟨_, HI3.out⟩
        case measure => exact HME.out
      · have HX := hide hJx3
        clear hJx3 hy2
        gi_wp2
        refine bodyPost_ret (results_none rfl _ _ _) rfl ?_
        exact ⟨⟨_, rfl⟩, .inr ⟨_, HX.out⟩⟩

theorem pkeys_stops (n : Nat) (hn : 1 ≤ n) (Bm b : Nat) (L : List (PK × CV)) (w : World) (hBm : Bm < w.heap.size) (hm : w.cell? ⟨Bm, 0, none⟩ = some (.map (some b))) (hown : MapR w b plV cvV L) :
    SeqStopsK Fence.wide n Try.prog 79 #[.pointer (some ⟨Bm, 0, none⟩)] (fun x : PK => #[plV x]) KeepsWalks (fun ss => ss.Perm (L.map (·.1))) (fun _ => True) L.length w := fun l J Jx W hW hJ _ hY h0 => by
  refine (pkeys1_in n hn l Bm b L J Jx hY W hJ ((hW.cell (p := ⟨Bm, 0, none⟩) hBm).trans hm) (hown.below hW hown.lt) h0).mono ?_
  rintro e W' ⟨h1, h2 | ⟨pre, h2⟩⟩
  · exact ⟨h1, .inl h2⟩
  · exact ⟨h1, .inr ⟨pre, trivial, h2⟩⟩

end Go.Proofs.Ytkobaidamdffmaa
