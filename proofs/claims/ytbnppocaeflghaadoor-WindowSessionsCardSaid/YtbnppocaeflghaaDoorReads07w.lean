/- WindowSessions at its arguments. -/
import Derived.Test.YtbnppocaeflghaaDoorReads07
import Derived.Test.YtbnppocaeflghaaDoorSess
namespace Go.Proofs.YtbnppocaeflghaaDoor
open Go.RowKit Go.ChangeShapes Go.WideShapes Go.Deep
set_option linter.unusedVariables false
set_option linter.unusedSimpArgs false
set_option maxRecDepth 100000 in
set_option maxHeartbeats 8000000 in
theorem sess_out (v : Value) (T : List Int) (n B : Nat) (g : Int) (w : World) (hs : Sl w B v 1 n (ints T)) (hg : ¬ (1 ≤ g ∧ g ≤ 1048576 ∧ n ≤ 60)) :
    Calls Tryd.prog 3 #[.int .i64 g, v] w fun e w' => e = .returned (.bool true) ∧ Below w.heap.size w w' := by
  obtain ⟨A, c, rfl, hc⟩ := hs.form
  have HCK := hide (check_any ⟨3, g, 0, 0⟩)
  have hcase : (Wfn.right ⟨3, g, 0, 0⟩ ∧ ¬ n ≤ 60) ∨ ¬ Wfn.right ⟨3, g, 0, 0⟩ := by
    by_cases h : Wfn.right ⟨3, g, 0, 0⟩
    · refine .inl ⟨h, fun h2 => hg ?_⟩
      unfold Wfn.right at h
      simp only at h
      omega
    · exact .inr h
  clear hs hg
  rcases hcase with ⟨hr, hn⟩ | hr
  · rw [if_pos hr] at HCK
    have h60 : (60 : Int) < (n : Int) := by omega
    clear hr hn
    go_enter Tryd.func3, Tryd.ntmps3
    go_wp2_with fail
    have HB0 : Hid (Below w.heap.size w (w.alloc (.cells #[.int .i64 3, .int .i64 g, .int .i64 0, .int .i64 0] fnT7))) := (Below.refl w.heap.size w).alloc (Nat.le_refl _) _
    refine (HCK.out _).mono ?_
    rintro e w1 ⟨rfl, hb⟩
    have HB1 := hide (HB0.out.trans (hb.mono HB0.out.size))
    clear hb HB0
    go_wp2_with fail
    refine (awake07 _).mono ?_
    rintro e w2 ⟨rfl, hb⟩
    have HB2 := hide (HB1.out.trans (hb.mono HB1.out.size))
    clear hb
    go_wp2_with fail
    go_ret
    exact ⟨rfl, HB2.out⟩
  · rw [if_neg hr] at HCK
    clear hr
    go_enter Tryd.func3, Tryd.ntmps3
    go_wp2_with fail
    have HB0 : Hid (Below w.heap.size w (w.alloc (.cells #[.int .i64 3, .int .i64 g, .int .i64 0, .int .i64 0] fnT7))) := (Below.refl w.heap.size w).alloc (Nat.le_refl _) _
    refine (HCK.out _).mono ?_
    rintro e w1 ⟨rfl, hb⟩
    have HB1 := hide (HB0.out.trans (hb.mono HB0.out.size))
    clear hb HB0
    go_wp2_with fail
    refine (awake07 _).mono ?_
    rintro e w2 ⟨rfl, hb⟩
    have HB2 := hide (HB1.out.trans (hb.mono HB1.out.size))
    clear hb
    go_wp2_with fail
    go_ret
    exact ⟨rfl, HB2.out⟩
theorem rd_ints {H : Type} (enc : TypeId × Value → H) (w : World) : Reads1 enc Tryd.prog w 22 (fun s : Value × List Int => [s.1]) (fun s => Sl w w.heap.size s.1 1 s.2.length (ints s.2)) :=
  (reads_slice (sz := 1) (E := fun n : Int => [.int .i64 n]) Tryd.underlying22 (by kernel_rfl) (fun _ => rfl) (by omega) (reads_int Tryd.underlying3)).map id (fun _ => rfl) (fun _ h => h.1)
theorem sess_walk (g : Int) (z : Value × List Int) (w : World) (hg : (Lit.int .i64 g).wf = true) (h : Sl w w.heap.size z.1 1 z.2.length (ints z.2)) :
    Calls Tryd.prog 3 #[.int .i64 g, z.1] w fun e w' => e = .returned (.bool true) ∧ Below w.heap.size w w' := by
  by_cases hc : 1 ≤ g ∧ g ≤ 1048576 ∧ z.2.length ≤ 60
  · exact sess_main z.1 z.2 z.2.length w.heap.size g w h rfl (Nat.le_refl _) hc.1 hc.2.1 hc.2.2
  · exact sess_out z.1 z.2 z.2.length w.heap.size g w h hc
end Go.Proofs.YtbnppocaeflghaaDoor
