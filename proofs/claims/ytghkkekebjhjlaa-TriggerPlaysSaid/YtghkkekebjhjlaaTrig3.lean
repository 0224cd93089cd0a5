/- A machine's calls, each by one law: what it answers, and what the machine is then. -/
import Derived.Test.YtghkkekebjhjlaaLaw10a
namespace Go.Proofs.Ytghkkekebjhjlaa
open Go.RowKit
set_option linter.unusedVariables false
set_option linter.unusedSimpArgs false

/-- what a call gives: the panes fired, the error, what the machine is then -/
structure Res where
  ps : List Inf
  er : Int
  m : Mst
def addR (s : Spc) (m : Mst) (v : Int) : Res :=
  if btw v 1 1000 = false then ⟨[], 100, m⟩ else if m.cl = true then ⟨[], 200, m⟩
  else if lim s m ≠ 0 ∧ lim s m ≤ m.fr + v then ⟨[⟨m.n, tim m, false⟩], 0, ⟨m.n + 1, tim m, 0, m.ps, m.cl⟩⟩ else ⟨[], 0, { m with fr := m.fr + v }⟩
def passR (s : Spc) (m : Mst) : Res :=
  if m.ps = true then ⟨[], 200, m⟩ else ⟨[⟨m.n, 1, s.t == 0⟩], 0, ⟨m.n + 1, fnext 1 (s.t == 0), 0, true, s.t == 0⟩⟩
def closeR (m : Mst) : Res :=
  if m.ps = false then ⟨[], 100, m⟩ else if m.cl = true then ⟨[], 200, m⟩ else if m.fr = 0 then ⟨[], 0, { m with cl := true }⟩ else ⟨[⟨m.n, 2, true⟩], 0, ⟨m.n + 1, 3, 0, m.ps, true⟩⟩

/-- what holds of each machine: D the panes that it has fired -/
structure GI (D : List Inf) (m : Mst) : Prop where
  run : prun 0 0 D = some (m.n, m.st)
  on : (D.filter fun p => p.t == 1).length = if m.ps = true then 1 else 0
  f0 : 0 ≤ m.fr
  end_ : m.cl = true → m.fr = 0
  early : m.ps = false → m.cl = false ∧ m.st = 0
  late : m.ps = true → m.cl = false → m.st = 1 ∨ m.st = 2

theorem GI.new : GI [] ⟨0, 0, 0, false, false⟩ := ⟨rfl, rfl, by simp, by simp, by simp, by simp⟩
theorem GI.n {D : List Inf} {m : Mst} (h : GI D m) : m.n = D.length := by have := prun_n D 0 0 _ _ h.run; omega
theorem GI.same {D : List Inf} {m : Mst} (h : GI D m) : GI (D ++ []) m := by rw [List.append_nil]; exact h
theorem GI.fire {D : List Inf} {m m' : Mst} (h : GI D m) (t : Int) (la : Bool) (hok : fok m.st t = true) (hn : m'.n = m.n + 1) (hs : m'.st = fnext t la) (hf : m'.fr = 0)
    (ht : (if m.ps = true then 1 else 0) + (if t = 1 then 1 else 0) = if m'.ps = true then 1 else 0) (h1 : m'.ps = false → m'.cl = false ∧ m'.st = 0) (h2 : m'.ps = true → m'.cl = false → m'.st = 1 ∨ m'.st = 2) : GI (D ++ [⟨m.n, t, la⟩]) m' := by
  refine ⟨?_, ?_, by omega, fun _ => hf, h1, h2⟩
  · rw [prun_snoc D 0 0 _ _ _ h.run]
    simp [hok, hn, hs]
  · rw [List.filter_append, List.length_append, h.on, ← ht]
    congr 1
    by_cases h9 : t = 1
    · simp [h9]
    · simp [h9]
theorem GI.add {D : List Inf} {m : Mst} (h : GI D m) (s : Spc) (v : Int) : GI (D ++ (addR s m v).ps) (addR s m v).m := by
  unfold addR
  split
  · exact h.same
  · rename_i hv
    have hv1 : 1 ≤ v := by simp [btw] at hv; omega
    split
    · exact h.same
    · rename_i hc
      have hc' : m.cl = false := by simpa using hc
      split
      · cases hp : m.ps
        · have := h.early hp
          refine h.fire _ _ ?_ rfl rfl rfl ?_ (fun _ => ⟨hc', by simp [tim, hp]⟩) (fun h9 => by simp at h9)
          · rw [this.2]; simp [tim, hp, fok]
          · simp [tim, hp]
        · have := h.late hp hc'
          refine h.fire _ _ ?_ rfl rfl rfl ?_ (fun h9 => by simp at h9) (fun _ _ => .inr (by simp [tim, hp]))
          · rcases this with h9 | h9 <;> rw [h9] <;> simp [tim, hp, fok]
          · simp [tim, hp]
      · rw [List.append_nil]
        exact ⟨h.run, h.on, by have := h.f0; show 0 ≤ m.fr + v; omega, fun h9 => absurd h9 hc, h.early, h.late⟩
theorem GI.pass {D : List Inf} {m : Mst} (h : GI D m) (s : Spc) : GI (D ++ (passR s m).ps) (passR s m).m := by
  unfold passR
  split
  · exact h.same
  · rename_i hp
    have hp' : m.ps = false := by simpa using hp
    have := h.early hp'
    refine h.fire _ _ ?_ rfl rfl rfl ?_ (fun h9 => by simp at h9) (fun _ h9 => .inl ?_)
    · rw [this.2]; rfl
    · simp [hp']
    · simp only at h9 ⊢; rw [h9]; rfl
theorem GI.close {D : List Inf} {m : Mst} (h : GI D m) : GI (D ++ (closeR m).ps) (closeR m).m := by
  unfold closeR
  split
  · exact h.same
  · rename_i hp
    have hp' : m.ps = true := by simpa using hp
    split
    · exact h.same
    · rename_i hc
      have hc' : m.cl = false := by simpa using hc
      split
      · rename_i hf
        rw [List.append_nil]
        exact ⟨h.run, h.on, h.f0, fun _ => hf, fun h9 => absurd h9 hp, fun _ h9 => by simp at h9⟩
      · have := h.late hp' hc'
        refine h.fire _ _ ?_ rfl rfl rfl ?_ (fun h9 => absurd h9 hp) (fun _ h9 => by simp at h9)
        · rcases this with h9 | h9 <;> rw [h9] <;> rfl
        · simp [hp']
theorem addR_fr (s : Spc) (m : Mst) (v : Int) (h : 0 ≤ m.fr) : (addR s m v).m.fr ≤ m.fr + 1000 ∧ (addR s m v).ps.length ≤ 1 := by
  unfold addR
  split
  · exact ⟨by show m.fr ≤ _; omega, by simp⟩
  · rename_i hv
    have hv1 : 1 ≤ v ∧ v ≤ 1000 := by simp [btw] at hv; omega
    split
    · exact ⟨by show m.fr ≤ _; omega, by simp⟩
    · split
      · exact ⟨by show 0 ≤ _; omega, by simp⟩
      · exact ⟨by show m.fr + v ≤ _; omega, by simp⟩
theorem passR_fr (s : Spc) (m : Mst) (h : 0 ≤ m.fr) : (passR s m).m.fr ≤ m.fr ∧ (passR s m).ps.length ≤ 1 := by
  unfold passR
  split
  · exact ⟨Int.le_refl _, by simp⟩
  · exact ⟨h, by simp⟩
theorem closeR_fr (m : Mst) (h : 0 ≤ m.fr) : (closeR m).m.fr ≤ m.fr ∧ (closeR m).ps.length ≤ 1 := by
  unfold closeR
  split
  · exact ⟨Int.le_refl _, by simp⟩
  · split
    · exact ⟨Int.le_refl _, by simp⟩
    · split
      · exact ⟨Int.le_refl _, by simp⟩
      · exact ⟨h, by simp⟩

/-- a call has answered -/
def RPost (w : World) (b l : Nat) (s : Spc) (r : Res) (e : Ending) (w' : World) : Prop :=
  ∃ v, e = .returned (.tuple #[v, .int .i64 r.er]) ∧ Own w' w.heap.size pT 3 v r.ps.length (infs r.ps) ∧ MR w' b l s r.m ∧ MFr b l w w'
theorem RPost.none {w : World} {b l : Nat} {s : Spc} {er : Int} {m : Mst} {e : Ending} {w' : World} (h : MR w b l s m) (h2 : e = .returned (.tuple #[.slice none 0 0, .int .i64 er]) ∧ w = w') : RPost w b l s ⟨[], er, m⟩ e w' := by
  obtain ⟨rfl, rfl⟩ := h2
  exact ⟨_, rfl, Own.nil _ _ _ _, h, Fr.refl _ _⟩
theorem RPost.no {w : World} {b l : Nat} {s : Spc} {er : Int} {m : Mst} {e : Ending} {w' : World} (h : NPost w b l s er m e w') : RPost w b l s ⟨[], er, m⟩ e w' := by
  obtain ⟨rfl, h1, h2⟩ := h
  exact ⟨_, rfl, Own.nil _ _ _ _, h1, h2⟩
theorem RPost.yes {w : World} {b l : Nat} {s : Spc} {p : Inf} {m : Mst} {e : Ending} {w' : World} (h : MPost w b l s p m e w') : RPost w b l s ⟨[p], 0, m⟩ e w' := h

theorem add_any {D : List Inf} (w : World) (b l : Nat) (s : Spc) (m : Mst) (v : Int) (h : MR w b l s m) (g : GI D m) (h1 : m.fr ≤ 4611686018427387904) (h2 : m.n ≤ 4611686018427387904) :
    Calls Try.prog 10 #[.pointer (some ⟨b, 0, none⟩), .int .i64 v] w (RPost w b l s (addR s m v)) := by
  have hn := g.n
  unfold addR
  split
  · rename_i hv
    exact (add_bad w b l s m v h hv).mono fun _ _ h9 => RPost.none h h9
  · rename_i hv
    have hv' : btw v 1 1000 = true := by simpa using hv
    split
    · rename_i hc
      exact (add_closed w b l s m v h hv' hc).mono fun _ _ h9 => RPost.none h h9
    · rename_i hc
      have hc' : m.cl = false := by simpa using hc
      cases hp : m.ps
      · have g2 := g.early hp
        split
        · rename_i hl
          rw [show lim s m = s.e by simp [lim, hp]] at hl
          rw [show tim m = 0 by simp [tim, hp]]
          have := add_fires_false w b l s m v h hv' hc' hp g.f0 h1 hl.1 hl.2 (by rw [g2.2]; rfl) (by omega) h2
          rw [hp] at this
          exact this.mono fun _ _ h9 => RPost.yes h9
        · rename_i hl
          rw [show lim s m = s.e by simp [lim, hp]] at hl
          exact (add_not_false w b l s m v h hv' hc' hp g.f0 h1 (by omega)).mono fun _ _ h9 => RPost.no (by rw [hp] at h9; exact h9)
      · have g2 := g.late hp hc'
        split
        · rename_i hl
          rw [show lim s m = s.l by simp [lim, hp]] at hl
          rw [show tim m = 2 by simp [tim, hp]]
          have := add_fires_true w b l s m v h hv' hc' hp g.f0 h1 hl.1 hl.2 (by rcases g2 with h9 | h9 <;> rw [h9] <;> rfl) (by omega) h2
          rw [hp] at this
          exact this.mono fun _ _ h9 => RPost.yes h9
        · rename_i hl
          rw [show lim s m = s.l by simp [lim, hp]] at hl
          exact (add_not_true w b l s m v h hv' hc' hp g.f0 h1 (by omega)).mono fun _ _ h9 => RPost.no (by rw [hp] at h9; exact h9)
theorem pass_any {D : List Inf} (w : World) (b l : Nat) (s : Spc) (m : Mst) (h : MR w b l s m) (g : GI D m) (h2 : m.n ≤ 4611686018427387904) :
    Calls Try.prog 11 #[.pointer (some ⟨b, 0, none⟩)] w (RPost w b l s (passR s m)) := by
  have hn := g.n
  unfold passR
  split
  · rename_i hp
    exact (pass_again w b l s m h hp).mono fun _ _ h9 => RPost.none h h9
  · rename_i hp
    have hp' : m.ps = false := by simpa using hp
    have g2 := g.early hp'
    exact (pass_fires w b l s m _ h hp' rfl (by rw [g2.2]; rfl) (by omega) h2).mono fun _ _ h9 => RPost.yes h9
theorem close_any {D : List Inf} (w : World) (b l : Nat) (s : Spc) (m : Mst) (h : MR w b l s m) (g : GI D m) (h2 : m.n ≤ 4611686018427387904) :
    Calls Try.prog 14 #[.pointer (some ⟨b, 0, none⟩)] w (RPost w b l s (closeR m)) := by
  have hn := g.n
  unfold closeR
  split
  · rename_i hp
    exact (close_early w b l s m h hp).mono fun _ _ h9 => RPost.none h h9
  · rename_i hp
    have hp' : m.ps = true := by simpa using hp
    split
    · rename_i hc
      exact (close_again w b l s m h hp' hc).mono fun _ _ h9 => RPost.none h h9
    · rename_i hc
      have hc' : m.cl = false := by simpa using hc
      split
      · rename_i hf
        exact (close_none w b l s m h hp' hc' hf).mono fun _ _ h9 => RPost.no h9
      · rename_i hf
        have g2 := g.late hp' hc'
        exact (close_fires w b l s m h hp' hc' hf (by rcases g2 with h9 | h9 <;> rw [h9] <;> rfl) (by omega) h2).mono fun _ _ h9 => RPost.yes h9

end Go.Proofs.Ytghkkekebjhjlaa
