/- What the functions of package trigger do to a machine. -/
import Derived.Test.YtghkkekebjhjlaaProg
import Derived.Test.YtghkkekebjhjlaaPure09
import Derived.Test.YtghkkekebjhjlaaApp
import Derived.Test.YtghkkekebjhjlaaCut
import Derived.Deep.QuietTactic
import Derived.BigQuiet
import Derived.Deep.RegionWith
namespace Go.Proofs.Ytghkkekebjhjlaa
open Go.RowKit
set_option linter.unusedVariables false
set_option linter.unusedSimpArgs false

abbrev mT : Nat := 60
abbrev pT : Nat := 34
/-- a spec -/
structure Spc where
  e : Int
  l : Int
  t : Int
  a : Bool
def Spc.cells (s : Spc) : List Value := [.int .i64 s.e, .int .i64 s.l, .int .i64 s.t, .bool s.a]
def Spc.val (s : Spc) : Value := .agg #[.int .i64 s.e, .int .i64 s.l, .int .i64 s.t, .bool s.a]
/-- is a spec right? -/
def Spc.ok (s : Spc) : Bool := decide (0 ≤ s.e ∧ s.e ≤ 1000 ∧ 0 ≤ s.l ∧ s.l ≤ 1000 ∧ 0 ≤ s.t ∧ s.t ≤ 1048576 ∧ (0 < s.t ∨ s.l = 0))
/-- what a machine is, but its spec -/
structure Mst where
  n : Int
  st : Int
  fr : Int
  ps : Bool
  cl : Bool
/-- At block b lies a machine, its line at block l. -/
def MR (w : World) (b l : Nat) (s : Spc) (m : Mst) : Prop :=
  Blk w b mT #[.int .i64 s.e, .int .i64 s.l, .int .i64 s.t, .bool s.a, .pointer (some ⟨l, 0, none⟩), .int .i64 m.fr, .bool m.ps, .bool m.cl] ∧ lineB w l m.n m.st
/-- nothing but the machine's blocks has turned -/
abbrev MFr (b l : Nat) (w w' : World) : Prop := Fr (fun k => k = b ∨ k = l) w w'

section
variable {w w' : World} {b l : Nat} {s : Spc} {m : Mst}
theorem MR.to (h : MR w b l s m) (h1 : w'.heap[b]? = w.heap[b]?) (h2 : w'.heap[l]? = w.heap[l]?) : MR w' b l s m := ⟨h.1.to h1, Blk.to h.2 h2⟩
theorem MR.ne (h : MR w b l s m) : b ≠ l := h.1.apart h.2 (by decide)
theorem MR.lt1 (h : MR w b l s m) : b < w.heap.size := h.1.lt
theorem MR.lt2 (h : MR w b l s m) : l < w.heap.size := Blk.lt h.2
theorem MR.below (h : MR w b l s m) (hb : Below w.heap.size w w') : MR w' b l s m := h.to (hb.block _ h.lt1) (hb.block _ h.lt2)
theorem MR.alloc (h : MR w b l s m) (o : Obj) : MR (w.alloc o) b l s m := h.below ((Below.refl _ _).alloc (Nat.le_refl _) o)
theorem MR.drewN (h : MR w b l s m) (k : Nat) : MR (w.drewN k) b l s m := h
theorem MR.drew (h : MR w b l s m) : MR w.drew b l s m := h
theorem MR.fr {S : Nat → Prop} (h : MR w b l s m) (hf : Fr S w w') (h1 : ¬ S b) (h2 : ¬ S l) : MR w' b l s m := h.to (hf.block _ h.lt1 h1) (hf.block _ h.lt2 h2)
/-- the cells of a machine -/
theorem MR.open (h : MR w b l s m) : w.cell? ⟨b, 0, none⟩ = some (.int .i64 s.e) ∧ w.cell? ⟨b, 1, none⟩ = some (.int .i64 s.l) ∧ w.cell? ⟨b, 2, none⟩ = some (.int .i64 s.t) ∧
    w.cell? ⟨b, 4, none⟩ = some (.pointer (some ⟨l, 0, none⟩)) ∧ w.cell? ⟨b, 5, none⟩ = some (.int .i64 m.fr) ∧ w.cell? ⟨b, 6, none⟩ = some (.bool m.ps) ∧ w.cell? ⟨b, 7, none⟩ = some (.bool m.cl) ∧
    w.frozen? ⟨b, 5, none⟩ = false ∧ w.frozen? ⟨b, 6, none⟩ = false ∧ w.frozen? ⟨b, 7, none⟩ = false ∧ b < w.heap.size :=
  ⟨h.1.cell 0, h.1.cell 1, h.1.cell 2, h.1.cell 4, h.1.cell 5, h.1.cell 6, h.1.cell 7, h.1.frozen 5, h.1.frozen 6, h.1.frozen 7, h.1.lt⟩
theorem MR.put5 (h : MR w b l s m) (x : Int) : MR (w.setCell ⟨b, 5, none⟩ (.int .i64 x)) b l s { m with fr := x } :=
  ⟨by simpa using h.1.put 5 (.int .i64 x), Blk.far h.2 (Ne.symm h.ne) _⟩
theorem MR.put6 (h : MR w b l s m) (x : Bool) : MR (w.setCell ⟨b, 6, none⟩ (.bool x)) b l s { m with ps := x } :=
  ⟨by simpa using h.1.put 6 (.bool x), Blk.far h.2 (Ne.symm h.ne) _⟩
theorem MR.put7 (h : MR w b l s m) (x : Bool) : MR (w.setCell ⟨b, 7, none⟩ (.bool x)) b l s { m with cl := x } :=
  ⟨by simpa using h.1.put 7 (.bool x), Blk.far h.2 (Ne.symm h.ne) _⟩
end

def btw (n lo hi : Int) : Bool := decide (lo ≤ n ∧ n ≤ hi)
theorem between_any (n lo hi : Int) (w : World) : Calls Try.prog 20 #[.int .i64 n, .int .i64 lo, .int .i64 hi] w fun e w' => e = .returned (.bool (btw n lo hi)) ∧ w = w' := by
  by_cases h1 : lo ≤ n
  · by_cases h2 : n ≤ hi
    · have H : Hid (btw n lo hi = true) := by simp [Hid, btw, h1, h2]
      go_enter Try.func20, Try.ntmps20
      go_wp2
      go_ret
      exact ⟨by rw [H.out]; rfl, rfl⟩
    · have H : Hid (btw n lo hi = false) := by simp [Hid, btw, h2]
      go_enter Try.func20, Try.ntmps20
      go_wp2
      go_ret
      exact ⟨by rw [H.out]; rfl, rfl⟩
  · have H : Hid (btw n lo hi = false) := by simp [Hid, btw, h1]
    go_enter Try.func20, Try.ntmps20
    go_wp2
    go_ret
    exact ⟨by rw [H.out]; rfl, rfl⟩

/-- a pane is fired: one row, the machine a step on -/
def MPost (w : World) (b l : Nat) (s : Spc) (p : Inf) (m : Mst) (e : Ending) (w' : World) : Prop :=
  ∃ v, e = .returned (.tuple #[v, .int .i64 0]) ∧ Own w' w.heap.size pT 3 v 1 (infs [p]) ∧ MR w' b l s m ∧ MFr b l w w'
/-- none is -/
def NPost (w : World) (b l : Nat) (s : Spc) (er : Int) (m : Mst) (e : Ending) (w' : World) : Prop :=
  e = .returned (.tuple #[.slice none 0 0, .int .i64 er]) ∧ MR w' b l s m ∧ MFr b l w w'

set_option maxHeartbeats 2000000 in
theorem firem_any (w : World) (b l : Nat) (s : Spc) (m : Mst) (t : Int) (la : Bool) (h : MR w b l s m) (hok : fok m.st t = true) (hn : 0 ≤ m.n) (hn2 : m.n ≤ 4611686018427387904) :
    Calls Try.prog 21 #[.pointer (some ⟨b, 0, none⟩), .int .i64 t, .bool la] w (MPost w b l s ⟨m.n, t, la⟩ ⟨m.n + 1, fnext t la, 0, m.ps, m.cl⟩) := by
  obtain ⟨c0, c1, c2, c4, c5, c6, c7, f5, f6, f7, hlt⟩ := h.open
  have H := hide h
  clear h
  go_enter Try.func21, Try.ntmps21
  go_wp2_with fail
  refine (fire_yes l m.n m.st t la _ H.out.2 hok hn hn2).mono ?_
  rintro e w1 ⟨rfl, hf, hl⟩
  have h1 : MR w1 b l s ⟨m.n + 1, fnext t la, m.fr, m.ps, m.cl⟩ := ⟨hf.blk H.out.1 H.out.ne, hl⟩
  obtain ⟨d0, d1, d2, d4, d5, d6, d7, g5, g6, g7, hlt1⟩ := h1.open
  have H1 := hide h1
  have HF := hide hf
  clear hf hl h1
  go_wp2_with fail
  go_ret2
  have hz := HF.out.size
  have hb := H1.out.lt1
  refine ⟨_, rfl, ?_, ?_, ?_⟩
  · have ho := Own.new (n := 1) (sz := 3) (e := pT) ((w1.setCell ⟨b, 5, none⟩ (.int .i64 0)).alloc (.cells #[.int .i64 m.n, .int .i64 t, .bool la] pT)) w.heap.size #[.int .i64 m.n, .int .i64 t, .bool la] (by simp; omega) (by omega) rfl
    simp only [World.size_alloc, World.size_setCell] at ho
    exact ho
  · exact ((H1.out.put5 0).alloc _).alloc _
  · exact (((HF.out.mono (T := fun k => k = b ∨ k = l) (fun _ _ h => Or.inr h)).put (.inl (.inl rfl)) _).alloc _).alloc _

theorem btw_yes (n lo hi : Int) (h : lo ≤ n ∧ n ≤ hi) : btw n lo hi = true := by simp [btw, h]
theorem btw_no (n lo hi : Int) (h : ¬ (lo ≤ n ∧ n ≤ hi)) : btw n lo hi = false := by simp only [btw, decide_eq_false_iff_not]; exact h

set_option maxHeartbeats 2000000 in
theorem add_bad (w : World) (b l : Nat) (s : Spc) (m : Mst) (v : Int) (h : MR w b l s m) (hv : btw v 1 1000 = false) :
    Calls Try.prog 10 #[.pointer (some ⟨b, 0, none⟩), .int .i64 v] w fun e w' => e = .returned (.tuple #[.slice none 0 0, .int .i64 100]) ∧ w = w' := by
  obtain ⟨c0, c1, c2, c4, c5, c6, c7, f5, f6, f7, hlt⟩ := h.open
  have HV := hide hv
  clear h hv
  go_enter Try.func10, Try.ntmps10
  go_wp2_with fail
  refine (between_any v 1 1000 _).mono ?_
  rintro e w1 ⟨rfl, rfl⟩
  rw [HV.out]
  go_wp2_with fail
  go_ret2
  exact ⟨rfl, rfl⟩
set_option maxHeartbeats 2000000 in
theorem add_closed (w : World) (b l : Nat) (s : Spc) (m : Mst) (v : Int) (h : MR w b l s m) (hv : btw v 1 1000 = true) (hc : m.cl = true) :
    Calls Try.prog 10 #[.pointer (some ⟨b, 0, none⟩), .int .i64 v] w fun e w' => e = .returned (.tuple #[.slice none 0 0, .int .i64 200]) ∧ w = w' := by
  obtain ⟨c0, c1, c2, c4, c5, c6, c7, f5, f6, f7, hlt⟩ := h.open
  rw [hc] at c7
  have HV := hide hv
  clear h hv hc
  go_enter Try.func10, Try.ntmps10
  go_wp2_with fail
  refine (between_any v 1 1000 _).mono ?_
  rintro e w1 ⟨rfl, rfl⟩
  rw [HV.out]
  go_wp2_with fail
  go_ret2
  exact ⟨rfl, rfl⟩

/-- the count at which a machine fires, and the pane's timing -/
def lim (s : Spc) (m : Mst) : Int := if m.ps then s.l else s.e
def tim (m : Mst) : Int := if m.ps then 2 else 0

set_option maxHeartbeats 2000000 in
theorem add_not_true (w : World) (b l : Nat) (s : Spc) (m : Mst) (v : Int) (h : MR w b l s m) (hv : btw v 1 1000 = true) (hc : m.cl = false) (hp : m.ps = true) (hf0 : 0 ≤ m.fr) (hf1 : m.fr ≤ 4611686018427387904) (hl : s.l = 0 ∨ m.fr + v < s.l) :
    Calls Try.prog 10 #[.pointer (some ⟨b, 0, none⟩), .int .i64 v] w (NPost w b l s 0 { m with fr := m.fr + v }) := by
  obtain ⟨c0, c1, c2, c4, c5, c6, c7, f5, f6, f7, hlt⟩ := h.open
  rw [hc] at c7
  rw [hp] at c6
  have H := hide h
  have HV := hide hv
  have hv1 : 1 ≤ v := by simp [btw] at hv; omega
  have hv2 : v ≤ 1000 := by simp [btw] at hv; omega
  have HP := hide hp
  clear h hv hc hp
  by_cases h0 : s.l = 0
  · rw [h0] at c1
    clear hl
    have H0 := hide h0
    clear h0
    go_enter Try.func10, Try.ntmps10
    go_wp2_with fail
    refine (between_any v 1 1000 _).mono ?_
    rintro e w1 ⟨rfl, rfl⟩
    rw [HV.out]
    go_wp2_with fail
    go_ret2
    exact ⟨rfl, H.out.put5 _, (Fr.refl _ _).put (.inl (.inl rfl)) _⟩
  · have h1 : m.fr + v < s.l := by omega
    have h2 : (s.l == 0) = false := by simpa using h0
    clear hl h0
    go_enter Try.func10, Try.ntmps10
    go_wp2_with fail
    refine (between_any v 1 1000 _).mono ?_
    rintro e w1 ⟨rfl, rfl⟩
    rw [HV.out]
    go_wp2_with fail
    go_ret2
    exact ⟨rfl, H.out.put5 _, (Fr.refl _ _).put (.inl (.inl rfl)) _⟩

set_option maxHeartbeats 2000000 in
theorem add_fires_true (w : World) (b l : Nat) (s : Spc) (m : Mst) (v : Int) (h : MR w b l s m) (hv : btw v 1 1000 = true) (hc : m.cl = false) (hp : m.ps = true) (hf0 : 0 ≤ m.fr) (hf1 : m.fr ≤ 4611686018427387904) (h0 : s.l ≠ 0) (h1 : s.l ≤ m.fr + v)
    (hok : fok m.st 2 = true) (hn : 0 ≤ m.n) (hn2 : m.n ≤ 4611686018427387904) :
    Calls Try.prog 10 #[.pointer (some ⟨b, 0, none⟩), .int .i64 v] w (MPost w b l s ⟨m.n, 2, false⟩ ⟨m.n + 1, 2, 0, m.ps, m.cl⟩) := by
  obtain ⟨c0, c1, c2, c4, c5, c6, c7, f5, f6, f7, hlt⟩ := h.open
  rw [hc] at c7
  rw [hp] at c6
  have H := hide h
  have HV := hide hv
  have hv1 : 1 ≤ v := by simp [btw] at hv; omega
  have hv2 : v ≤ 1000 := by simp [btw] at hv; omega
  have h2 : (s.l == 0) = false := by simpa using h0
  have HP := hide hp
  have HOK := hide hok
  clear h hv hc hp h0 hok
  go_enter Try.func10, Try.ntmps10
  go_wp2_with fail
  refine (between_any v 1 1000 _).mono ?_
  rintro e w1 ⟨rfl, rfl⟩
  rw [HV.out]
  go_wp2_with fail
  refine (firem_any _ b l s _ 2 false (H.out.put5 (m.fr + v)) HOK.out hn hn2).mono ?_
  rintro e w2 ⟨v2, rfl, ho, hm, hf⟩
  have HM := hide (And.intro ho (And.intro hm hf))
  clear ho hm hf
  go_wp2_with fail
  go_ret2
  refine ⟨v2, rfl, ?_, HM.out.2.1, ?_⟩
  · simpa using HM.out.1
  · exact ((Fr.refl _ _).put (.inl (.inl rfl)) _).trans HM.out.2.2 (fun _ _ h => h)

set_option maxHeartbeats 2000000 in
theorem add_not_false (w : World) (b l : Nat) (s : Spc) (m : Mst) (v : Int) (h : MR w b l s m) (hv : btw v 1 1000 = true) (hc : m.cl = false) (hp : m.ps = false) (hf0 : 0 ≤ m.fr) (hf1 : m.fr ≤ 4611686018427387904) (hl : s.e = 0 ∨ m.fr + v < s.e) :
    Calls Try.prog 10 #[.pointer (some ⟨b, 0, none⟩), .int .i64 v] w (NPost w b l s 0 { m with fr := m.fr + v }) := by
  obtain ⟨c0, c1, c2, c4, c5, c6, c7, f5, f6, f7, hlt⟩ := h.open
  rw [hc] at c7
  rw [hp] at c6
  have H := hide h
  have HV := hide hv
  have hv1 : 1 ≤ v := by simp [btw] at hv; omega
  have hv2 : v ≤ 1000 := by simp [btw] at hv; omega
  have HP := hide hp
  clear h hv hc hp
  by_cases h0 : s.e = 0
  · rw [h0] at c0
    clear hl
    have H0 := hide h0
    clear h0
    go_enter Try.func10, Try.ntmps10
    go_wp2_with fail
    refine (between_any v 1 1000 _).mono ?_
    rintro e w1 ⟨rfl, rfl⟩
    rw [HV.out]
    go_wp2_with fail
    go_ret2
    exact ⟨rfl, H.out.put5 _, (Fr.refl _ _).put (.inl (.inl rfl)) _⟩
  · have h1 : m.fr + v < s.e := by omega
    have h2 : (s.e == 0) = false := by simpa using h0
    clear hl h0
    go_enter Try.func10, Try.ntmps10
    go_wp2_with fail
    refine (between_any v 1 1000 _).mono ?_
    rintro e w1 ⟨rfl, rfl⟩
    rw [HV.out]
    go_wp2_with fail
    go_ret2
    exact ⟨rfl, H.out.put5 _, (Fr.refl _ _).put (.inl (.inl rfl)) _⟩

set_option maxHeartbeats 2000000 in
theorem add_fires_false (w : World) (b l : Nat) (s : Spc) (m : Mst) (v : Int) (h : MR w b l s m) (hv : btw v 1 1000 = true) (hc : m.cl = false) (hp : m.ps = false) (hf0 : 0 ≤ m.fr) (hf1 : m.fr ≤ 4611686018427387904) (h0 : s.e ≠ 0) (h1 : s.e ≤ m.fr + v)
    (hok : fok m.st 0 = true) (hn : 0 ≤ m.n) (hn2 : m.n ≤ 4611686018427387904) :
    Calls Try.prog 10 #[.pointer (some ⟨b, 0, none⟩), .int .i64 v] w (MPost w b l s ⟨m.n, 0, false⟩ ⟨m.n + 1, 0, 0, m.ps, m.cl⟩) := by
  obtain ⟨c0, c1, c2, c4, c5, c6, c7, f5, f6, f7, hlt⟩ := h.open
  rw [hc] at c7
  rw [hp] at c6
  have H := hide h
  have HV := hide hv
  have hv1 : 1 ≤ v := by simp [btw] at hv; omega
  have hv2 : v ≤ 1000 := by simp [btw] at hv; omega
  have h2 : (s.e == 0) = false := by simpa using h0
  have HP := hide hp
  have HOK := hide hok
  clear h hv hc hp h0 hok
  go_enter Try.func10, Try.ntmps10
  go_wp2_with fail
  refine (between_any v 1 1000 _).mono ?_
  rintro e w1 ⟨rfl, rfl⟩
  rw [HV.out]
  go_wp2_with fail
  refine (firem_any _ b l s _ 0 false (H.out.put5 (m.fr + v)) HOK.out hn hn2).mono ?_
  rintro e w2 ⟨v2, rfl, ho, hm, hf⟩
  have HM := hide (And.intro ho (And.intro hm hf))
  clear ho hm hf
  go_wp2_with fail
  go_ret2
  refine ⟨v2, rfl, ?_, HM.out.2.1, ?_⟩
  · simpa using HM.out.1
  · exact ((Fr.refl _ _).put (.inl (.inl rfl)) _).trans HM.out.2.2 (fun _ _ h => h)


set_option maxHeartbeats 2000000 in
theorem pass_again (w : World) (b l : Nat) (s : Spc) (m : Mst) (h : MR w b l s m) (hp : m.ps = true) :
    Calls Try.prog 11 #[.pointer (some ⟨b, 0, none⟩)] w fun e w' => e = .returned (.tuple #[.slice none 0 0, .int .i64 200]) ∧ w = w' := by
  obtain ⟨c0, c1, c2, c4, c5, c6, c7, f5, f6, f7, hlt⟩ := h.open
  rw [hp] at c6
  clear h hp
  go_enter Try.func11, Try.ntmps11
  go_wp2_with fail
  go_ret2
  exact ⟨rfl, rfl⟩
set_option maxHeartbeats 2000000 in
theorem pass_fires (w : World) (b l : Nat) (s : Spc) (m : Mst) (c : Bool) (h : MR w b l s m) (hp : m.ps = false) (hc : (s.t == 0) = c) (hok : fok m.st 1 = true) (hn : 0 ≤ m.n) (hn2 : m.n ≤ 4611686018427387904) :
    Calls Try.prog 11 #[.pointer (some ⟨b, 0, none⟩)] w (MPost w b l s ⟨m.n, 1, c⟩ ⟨m.n + 1, fnext 1 c, 0, true, c⟩) := by
  obtain ⟨c0, c1, c2, c4, c5, c6, c7, f5, f6, f7, hlt⟩ := h.open
  rw [hp] at c6
  have H := hide h
  have HOK := hide hok
  clear h hp hok
  cases c
  all_goals
    go_enter Try.func11, Try.ntmps11
    go_wp2_with fail
    refine (firem_any _ b l s _ 1 _ ((H.out.put6 true).put7 _) HOK.out hn hn2).mono ?_
    rintro e w2 ⟨v2, rfl, ho, hm, hf⟩
    have HM := hide (And.intro ho (And.intro hm hf))
    clear ho hm hf
    go_wp2_with fail
    go_ret2
    refine ⟨v2, rfl, ?_, HM.out.2.1, ?_⟩
    · simpa using HM.out.1
    · exact (((Fr.refl _ _).put (.inl (.inl rfl)) _).put (.inl (.inl rfl)) _).trans HM.out.2.2 (fun _ _ h => h)

set_option maxHeartbeats 2000000 in
theorem close_early (w : World) (b l : Nat) (s : Spc) (m : Mst) (h : MR w b l s m) (hp : m.ps = false) :
    Calls Try.prog 14 #[.pointer (some ⟨b, 0, none⟩)] w fun e w' => e = .returned (.tuple #[.slice none 0 0, .int .i64 100]) ∧ w = w' := by
  obtain ⟨c0, c1, c2, c4, c5, c6, c7, f5, f6, f7, hlt⟩ := h.open
  rw [hp] at c6
  clear h hp
  go_enter Try.func14, Try.ntmps14
  go_wp2_with fail
  go_ret2
  exact ⟨rfl, rfl⟩
set_option maxHeartbeats 2000000 in
theorem close_again (w : World) (b l : Nat) (s : Spc) (m : Mst) (h : MR w b l s m) (hp : m.ps = true) (hc : m.cl = true) :
    Calls Try.prog 14 #[.pointer (some ⟨b, 0, none⟩)] w fun e w' => e = .returned (.tuple #[.slice none 0 0, .int .i64 200]) ∧ w = w' := by
  obtain ⟨c0, c1, c2, c4, c5, c6, c7, f5, f6, f7, hlt⟩ := h.open
  rw [hp] at c6
  rw [hc] at c7
  clear h hp hc
  go_enter Try.func14, Try.ntmps14
  go_wp2_with fail
  go_ret2
  exact ⟨rfl, rfl⟩
set_option maxHeartbeats 2000000 in
theorem close_none (w : World) (b l : Nat) (s : Spc) (m : Mst) (h : MR w b l s m) (hp : m.ps = true) (hc : m.cl = false) (h0 : m.fr = 0) :
    Calls Try.prog 14 #[.pointer (some ⟨b, 0, none⟩)] w (NPost w b l s 0 { m with cl := true }) := by
  obtain ⟨c0, c1, c2, c4, c5, c6, c7, f5, f6, f7, hlt⟩ := h.open
  rw [hp] at c6
  rw [hc] at c7
  rw [h0] at c5
  have H := hide h
  clear h hp hc h0
  go_enter Try.func14, Try.ntmps14
  go_wp2_with fail
  go_ret2
  exact ⟨rfl, H.out.put7 _, (Fr.refl _ _).put (.inl (.inl rfl)) _⟩
set_option maxHeartbeats 2000000 in
theorem close_fires (w : World) (b l : Nat) (s : Spc) (m : Mst) (h : MR w b l s m) (hp : m.ps = true) (hc : m.cl = false) (h0 : m.fr ≠ 0) (hok : fok m.st 2 = true) (hn : 0 ≤ m.n) (hn2 : m.n ≤ 4611686018427387904) :
    Calls Try.prog 14 #[.pointer (some ⟨b, 0, none⟩)] w (MPost w b l s ⟨m.n, 2, true⟩ ⟨m.n + 1, 3, 0, m.ps, true⟩) := by
  obtain ⟨c0, c1, c2, c4, c5, c6, c7, f5, f6, f7, hlt⟩ := h.open
  rw [hp] at c6
  rw [hc] at c7
  have H := hide h
  have HOK := hide hok
  have h2 : (m.fr == 0) = false := by simpa using h0
  have HP := hide hp
  clear h hp hc h0 hok
  go_enter Try.func14, Try.ntmps14
  go_wp2_with fail
  refine (firem_any _ b l s _ 2 true (H.out.put7 true) HOK.out hn hn2).mono ?_
  rintro e w2 ⟨v2, rfl, ho, hm, hf⟩
  have HM := hide (And.intro ho (And.intro hm hf))
  clear ho hm hf
  go_wp2_with fail
  go_ret2
  refine ⟨v2, rfl, ?_, HM.out.2.1, ?_⟩
  · simpa using HM.out.1
  · exact ((Fr.refl _ _).put (.inl (.inl rfl)) _).trans HM.out.2.2 (fun _ _ h => h)

/-- has nothing been fired, nor passed? -/
def yng (m : Mst) : Bool := !m.ps && m.n == 0
set_option maxHeartbeats 2000000 in
theorem young_any (w : World) (b l : Nat) (s : Spc) (m : Mst) (h : MR w b l s m) :
    Calls Try.prog 22 #[.pointer (some ⟨b, 0, none⟩)] w fun e w' => e = .returned (.bool (yng m)) ∧ w = w' := by
  obtain ⟨c0, c1, c2, c4, c5, c6, c7, f5, f6, f7, hlt⟩ := h.open
  have H := hide h
  clear h
  have HY : Hid (∀ p : Bool, m.ps = p → yng m = (!p && m.n == 0)) := by intro p hp; simp [yng, hp]
  cases hp : m.ps
  · rw [hp] at c6
    have HP := hide (HY.out _ hp)
    clear hp
    go_enter Try.func22, Try.ntmps22
    go_wp2_with fail
    refine (next_any l m.n m.st _ H.out.2).mono ?_
    rintro e w1 ⟨rfl, rfl⟩
    go_wp2_with fail
    go_ret
    exact ⟨by rw [HP.out]; simp, rfl⟩
  · rw [hp] at c6
    have HP := hide (HY.out _ hp)
    clear hp
    go_enter Try.func22, Try.ntmps22
    go_wp2_with fail
    go_ret
    exact ⟨by rw [HP.out]; simp, rfl⟩

/-- a spec's check, step by step -/
theorem ok_yes (s : Spc) (h : s.ok = true) : btw s.e 0 1000 = true ∧ btw s.l 0 1000 = true ∧ btw s.t 0 1048576 = true ∧ ((s.t == 0) = false ∨ ¬ (0 < s.l)) := by
  simp [Spc.ok] at h
  refine ⟨btw_yes _ _ _ (by omega), btw_yes _ _ _ (by omega), btw_yes _ _ _ (by omega), ?_⟩
  by_cases h0 : s.t = 0
  · right; omega
  · left; simpa using h0

def sokE (s : Spc) : Int := if s.ok then 0 else 100
set_option maxHeartbeats 4000000 in
theorem scheck_any (w : World) (s : Spc) : Calls Try.prog 16 #[s.val] w fun e w' => e = .returned (.int .i64 (sokE s)) ∧ Below w.heap.size w w' := by
  obtain ⟨se, sl, st, sa⟩ := s
  have HOK : Hid (∀ b : Bool, b = (btw se 0 1000 && btw sl 0 1000 && btw st 0 1048576 && (!(st == 0) || decide (sl ≤ 0))) → sokE ⟨se, sl, st, sa⟩ = if b then 0 else 100) := by
    rintro b rfl
    have h : (⟨se, sl, st, sa⟩ : Spc).ok = (btw se 0 1000 && btw sl 0 1000 && btw st 0 1048576 && (!(st == 0) || decide (sl ≤ 0))) := by
      simp only [Spc.ok, btw]
      rw [Bool.eq_iff_iff]
      simp
      omega
    rw [sokE, h]
  simp only [Spc.val]
  cases h1 : btw se 0 1000
  · have HX := hide (HOK.out false (by rw [h1]; rfl))
    have H1 := hide h1
    clear h1
    go_enter Try.func16, Try.ntmps16
    go_wp2_with fail
    refine (between_any se 0 1000 _).mono ?_
    rintro e w1 ⟨rfl, rfl⟩
    rw [H1.out]
    go_wp2_with fail
    go_ret
    exact ⟨by rw [HX.out]; rfl, (Below.refl _ _).alloc (Nat.le_refl _) _⟩
  · cases h2 : btw sl 0 1000
    · have HX := hide (HOK.out false (by rw [h1, h2]; rfl))
      have H1 := hide h1
      have H2 := hide h2
      clear h1 h2
      go_enter Try.func16, Try.ntmps16
      go_wp2_with fail
      refine (between_any se 0 1000 _).mono ?_
      rintro e w1 ⟨rfl, rfl⟩
      rw [H1.out]
      go_wp2_with fail
      refine (between_any sl 0 1000 _).mono ?_
      rintro e w1 ⟨rfl, rfl⟩
      rw [H2.out]
      go_wp2_with fail
      go_ret
      exact ⟨by rw [HX.out]; rfl, (Below.refl _ _).alloc (Nat.le_refl _) _⟩
    · cases h3 : btw st 0 1048576
      · have HX := hide (HOK.out false (by rw [h1, h2, h3]; rfl))
        have H1 := hide h1
        have H2 := hide h2
        have H3 := hide h3
        clear h1 h2 h3
        go_enter Try.func16, Try.ntmps16
        go_wp2_with fail
        refine (between_any se 0 1000 _).mono ?_
        rintro e w1 ⟨rfl, rfl⟩
        rw [H1.out]
        go_wp2_with fail
        refine (between_any sl 0 1000 _).mono ?_
        rintro e w1 ⟨rfl, rfl⟩
        rw [H2.out]
        go_wp2_with fail
        refine (between_any st 0 1048576 _).mono ?_
        rintro e w1 ⟨rfl, rfl⟩
        rw [H3.out]
        go_wp2_with fail
        go_ret
        exact ⟨by rw [HX.out]; rfl, (Below.refl _ _).alloc (Nat.le_refl _) _⟩
      · have HY := hide (fun b hb => HOK.out b (by rw [h1, h2, h3]; exact hb))
        have H1 := hide h1
        have H2 := hide h2
        have H3 := hide h3
        clear h1 h2 h3 HOK
        by_cases h4 : st = 0
        · subst h4
          by_cases h5 : 0 < sl
          · have HX := hide (HY.out false (by simp; omega))
            go_enter Try.func16, Try.ntmps16
            go_wp2_with fail
            refine (between_any se 0 1000 _).mono ?_
            rintro e w1 ⟨rfl, rfl⟩
            rw [H1.out]
            go_wp2_with fail
            refine (between_any sl 0 1000 _).mono ?_
            rintro e w1 ⟨rfl, rfl⟩
            rw [H2.out]
            go_wp2_with fail
            refine (between_any 0 0 1048576 _).mono ?_
            rintro e w1 ⟨rfl, rfl⟩
            rw [H3.out]
            go_wp2_with fail
            go_ret
            exact ⟨by rw [HX.out]; rfl, (Below.refl _ _).alloc (Nat.le_refl _) _⟩
          · have HX := hide (HY.out true (by simp; omega))
            go_enter Try.func16, Try.ntmps16
            go_wp2_with fail
            refine (between_any se 0 1000 _).mono ?_
            rintro e w1 ⟨rfl, rfl⟩
            rw [H1.out]
            go_wp2_with fail
            refine (between_any sl 0 1000 _).mono ?_
            rintro e w1 ⟨rfl, rfl⟩
            rw [H2.out]
            go_wp2_with fail
            refine (between_any 0 0 1048576 _).mono ?_
            rintro e w1 ⟨rfl, rfl⟩
            rw [H3.out]
            go_wp2_with fail
            go_ret
            exact ⟨by rw [HX.out]; rfl, (Below.refl _ _).alloc (Nat.le_refl _) _⟩
        · have HX := hide (HY.out true (by simp [h4]))
          have h6 : (st == 0) = false := by simpa using h4
          clear h4
          go_enter Try.func16, Try.ntmps16
          go_wp2_with fail
          refine (between_any se 0 1000 _).mono ?_
          rintro e w1 ⟨rfl, rfl⟩
          rw [H1.out]
          go_wp2_with fail
          refine (between_any sl 0 1000 _).mono ?_
          rintro e w1 ⟨rfl, rfl⟩
          rw [H2.out]
          go_wp2_with fail
          refine (between_any st 0 1048576 _).mono ?_
          rintro e w1 ⟨rfl, rfl⟩
          rw [H3.out]
          go_wp2_with fail
          go_ret
          exact ⟨by rw [HX.out]; rfl, (Below.refl _ _).alloc (Nat.le_refl _) _⟩

end Go.Proofs.Ytghkkekebjhjlaa
