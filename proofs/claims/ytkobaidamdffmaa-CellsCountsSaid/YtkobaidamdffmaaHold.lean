/- cells.Table: Hold. -/
import Derived.Test.YtkobaidamdffmaaCell6
namespace Go.Proofs.Ytkobaidamdffmaa
open Go.RowKit Go.Sort
set_option linter.unusedVariables false
set_option linter.unusedSimpArgs false

/-- the least stamp of what is open -/
def holdF (z : Int × Bool) (d : CD) : Int × Bool := if d.c = false ∧ (z.2 = false ∨ d.s < z.1) then (d.s, true) else z
def holdL (D : List CD) : Int × Bool := D.foldl holdF (0, false)
theorem holdF_comm (z : Int × Bool) (x y : CD) : holdF (holdF z x) y = holdF (holdF z y) x := by
  obtain ⟨m, o⟩ := z
  obtain ⟨xb, xs, xn, xg, xh, xp, xc⟩ := x
  obtain ⟨yb, ys, yn, yg, yh, yp, yc⟩ := y
  unfold holdF
  cases xc <;> cases yc <;> cases o <;> simp
  all_goals
    (repeat' split) <;> simp_all <;> omega
theorem holdL_perm {D E : List CD} (h : D.Perm E) : holdL D = holdL E := h.foldl_eq' (fun x _ y _ z => holdF_comm z x y) _
theorem holdL_snoc (D : List CD) (d : CD) : holdL (D ++ [d]) = holdF (holdL D) d := by
  unfold holdL
  rw [List.foldl_append]
  rfl
def cds (L : List (PK × CV)) : List CD := L.map (fun p => p.2.d)

set_option maxHeartbeats 4000000 in
theorem chold_any (w : World) (base tb cb : Nat) (wm fm : Option Nat) (bg : Bool) (L W : List (PK × CV)) (F : List (PK × Int)) (h : TabS w base tb cb wm fm bg L W F) :
    Calls Try.prog 53 #[.pointer (some ⟨tb, 0, none⟩)] w fun e w' => e = .returned (.tuple #[.int .i64 (holdL (cds L)).1, .bool (holdL (cds L)).2]) ∧ Below w.heap.size w w' := by
  obtain ⟨t0, t1, t2, t3, htl⟩ := h.open
  have HT := hide h
  have HM := hide h.map
  have hcl := h.map.lt
  clear h t1 t2 t3
  go_enter Try.func53, Try.ntmps53
  go_wp2_with (at_range; refine wpList_range_it rfl _ rfl cmU rfl HM.out ?_; intro ob hI0)
  go_frame
  have HI0 : Hid (ItR (w.alloc ob) cb w.heap.size plV cvV L [] ∧ Below w.heap.size w (w.alloc ob)) := ⟨hI0, (Below.refl _ _).alloc (Nat.le_refl _) _⟩
  clear hI0
  go_loopw [4, 5] (fun l o wr => ∃ (D : List (PK × CV)) (m : Int) (b : Bool), l = .int .i64 m ∧ o = .bool b ∧ Hid ((m, b) = holdL (cds D)) ∧ Hid (ItR wr cb w.heap.size plV cvV L D ∧ Below w.heap.size w wr)) (fun _ _ wr => itLeft wr cb w.heap.size)
  case atStart => exact ⟨[], 0, false, rfl, rfl, rfl, HI0.out⟩
  case round =>
    obtain ⟨D, m, b, rfl, rfl, HH, HI⟩ := hrel
    go_wp2_with (at_next; refine wpList_next_it' rfl _ rfl rfl HI.out.1 ?_ ?_)
    · intro hp
      have HF : Hid (holdL (cds L) = (m, b)) := by rw [Hid, HH.out]; exact holdL_perm (hp.map _)
      clear hp
      go_wp2_with fail
      go_ret2
      rw [HF.out]
      exact ⟨rfl, HI.out.2⟩
    · intro w2 kv vv hst
      obtain ⟨p, hkv, hvv, hp, hI2, hlt, hf2, hsz, hen⟩ := hst
      have hacc := (HT.out.acc p hp)
      obtain ⟨vA, vc, hvs, _⟩ := hacc.1.sl.form
      obtain ⟨⟨pk, pf, pt, pok⟩, ⟨cv, ⟨cb_, cs, cn, cg, ch, cp, cc⟩⟩⟩ := p
      simp only at hvs
      subst hvs
      have hkv2 : kv = .agg #[.string (strOfNums pk), .int .i64 pf, .int .i64 pt] := hkv
      have hvv2 : vv = .agg #[.slice vA cb_.length vc, .int .i64 cs, .int .i64 cn, .int .i64 cg, .int .i64 ch, .bool cp, .bool cc] := hvv
      clear hkv hvv hacc hp
      subst hkv2 hvv2
      have HI2 : Hid (∀ o, ItR (w2.alloc o) cb w.heap.size plV cvV L (D ++ [(⟨pk, pf, pt, pok⟩, ⟨.slice vA cb_.length vc, ⟨cb_, cs, cn, cg, ch, cp, cc⟩⟩)]) ∧ Below w.heap.size w (w2.alloc o)) := fun o =>
        ⟨hI2.below ((Below.refl _ _).alloc (Nat.le_refl _) o) hI2.lt.1 hI2.lt.2, (HI.out.2.trans (hf2.below HI.out.2.size (fun k hk e => by omega))).alloc (by rw [hsz]; exact HI.out.2.size) o⟩
      have HL : Hid (∀ o, itLeft (w2.alloc o) cb w.heap.size < itLeft wr cb w.heap.size) := fun o => by
        rw [(HI2.out o).1.left_eq, HI.out.1.left_eq, List.length_append]
        simp only [List.length_cons, List.length_nil]
        omega
      have HN : Hid (holdL (cds (D ++ [((⟨pk, pf, pt, pok⟩ : PK), (⟨.slice vA cb_.length vc, ⟨cb_, cs, cn, cg, ch, cp, cc⟩⟩ : CV))])) = if cc = false ∧ (b = false ∨ cs < m) then (cs, true) else (m, b)) := by
        rw [Hid, cds, List.map_append, List.map_singleton, holdL_snoc]
        rw [show holdL (List.map (fun p => p.2.d) D) = (m, b) from HH.out.symm]
        rfl
      clear hI2 hlt hf2 hsz
      generalize strOfNums pk = ps at *
      generalize cb_.length = cn_ at *
      cases cc
      · cases b
        · have HN2 : Hid ((cs, true) = holdL (cds (D ++ [((⟨pk, pf, pt, pok⟩ : PK), (⟨.slice vA cn_ vc, ⟨cb_, cs, cn, cg, ch, cp, false⟩⟩ : CV))]))) := by rw [Hid, HN.out]; simp
          go_wp2_with fail
          go_roundw
          case rel => exact ⟨_, cs, true, rfl, rfl, HN2, HI2.out _⟩
          case measure => exact HL.out _
        · by_cases hcm : cs < m
          · have HN2 : Hid ((cs, true) = holdL (cds (D ++ [((⟨pk, pf, pt, pok⟩ : PK), (⟨.slice vA cn_ vc, ⟨cb_, cs, cn, cg, ch, cp, false⟩⟩ : CV))]))) := by rw [Hid, HN.out]; simp [hcm]
            go_wp2_with fail
            go_roundw
            case rel => exact ⟨_, cs, true, rfl, rfl, HN2, HI2.out _⟩
            case measure => exact HL.out _
          · have HN2 : Hid ((m, true) = holdL (cds (D ++ [((⟨pk, pf, pt, pok⟩ : PK), (⟨.slice vA cn_ vc, ⟨cb_, cs, cn, cg, ch, cp, false⟩⟩ : CV))]))) := by rw [Hid, HN.out]; simp [hcm]
            go_wp2_with fail
            go_roundw
            case rel => exact ⟨_, m, true, rfl, rfl, HN2, HI2.out _⟩
            case measure => exact HL.out _
      · have HN2 : Hid ((m, b) = holdL (cds (D ++ [((⟨pk, pf, pt, pok⟩ : PK), (⟨.slice vA cn_ vc, ⟨cb_, cs, cn, cg, ch, cp, true⟩⟩ : CV))]))) := by rw [Hid, HN.out]; simp
        go_wp2_with fail
        go_roundw
        case rel => exact ⟨_, m, b, rfl, rfl, HN2, HI2.out _⟩
        case measure => exact HL.out _

end Go.Proofs.Ytkobaidamdffmaa
