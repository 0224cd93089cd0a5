/- JournalPlays: the program's tape and the reference's beside it; what each one's writing leaves of the other. -/
import Derived.Test.YtlllocfcljgacaaRef18f
namespace Go.Proofs.Ytlllocfcljgacaa
open Go.RowKit
set_option linter.unusedVariables false
set_option linter.unusedSimpArgs false

/-- The program's tape at bj, the reference's at bx: the same records, s of them safe; no record of the reference's lies in the program's bytes. -/
structure St (w : World) (base bj bx : Nat) (bv ev rv : Value) (R : List Rec) (s : Nat) (c : Int) : Prop where
  hj : JR w base bj bv ev c (framesL (R.map (·.2))) (endsL 0 (R.map (·.2))) (framesL ((R.map (·.2)).take s)).length
  hx : RT w base bx rv R s c
  sep : ∀ r ∈ R, ∀ g, r.1.ownBlock = some g → bv.ownBlock ≠ some g
  sle : s ≤ R.length
  fit : Fit (R.map (·.2))
  by8 : ∀ r ∈ R, Bytes8 r.2
  b1 : base ≤ bj
  b2 : base ≤ bx

section
variable {w w' : World} {base bj bx : Nat} {bv ev rv : Value} {R : List Rec} {s : Nat} {c sf : Int} {X E : List Int}
theorem St.below (h : St w base bj bx bv ev rv R s c) (hb : Below w.heap.size w w') : St w' base bj bx bv ev rv R s c :=
  ⟨h.hj.below hb, h.hx.below hb, h.sep, h.sle, h.fit, h.by8, h.b1, h.b2⟩
theorem St.tp (h : St w base bj bx bv ev rv R s c) : TP w base bj c (R.map (·.2)) (framesL ((R.map (·.2)).take s)).length := ⟨bv, ev, h.hj, h.b1⟩
/-- where the program's tape writes -/
def WJ (bj : Nat) (bv ev : Value) (k : Nat) : Prop := k = bj ∨ bv.ownBlock = some k ∨ ev.ownBlock = some k
/-- what the program's writing leaves of the reference's tape -/
theorem RT.frJ {si : Int} (h : RT w base bx rv R si c) (hj : JR w base bj bv ev c X E sf) (sep : ∀ r ∈ R, ∀ g, r.1.ownBlock = some g → bv.ownBlock ≠ some g) (hf : Fr (WJ bj bv ev) w w') : RT w' base bx rv R si c := by
  refine ⟨hf.blk h.1 ?_, h.2.1.fr hf ?_, fun r hr => (h.2.2 r hr).fr hf ?_⟩
  · rintro (h9 | h9 | h9)
    · exact h.1.apart hj.1 (by decide) h9
    · exact hj.2.1.ne h.1 (by decide) h9
    · exact hj.2.2.ne h.1 (by decide) h9
  · rintro g hg (h9 | h9 | h9)
    · subst h9
      exact h.2.1.ne hj.1 (by decide) hg
    · obtain ⟨cs1, t1⟩ := h.2.1.typed g hg
      obtain ⟨cs2, t2⟩ := hj.2.1.typed g h9
      exact t1.apart t2 (by decide) rfl
    · obtain ⟨cs1, t1⟩ := h.2.1.typed g hg
      obtain ⟨cs2, t2⟩ := hj.2.2.typed g h9
      exact t1.apart t2 (by decide) rfl
  · rintro g hg (h9 | h9 | h9)
    · subst h9
      exact (h.2.2 r hr).ne hj.1 (by decide) hg
    · exact sep r hr g hg h9
    · obtain ⟨cs1, t1⟩ := (h.2.2 r hr).typed g hg
      obtain ⟨cs2, t2⟩ := hj.2.2.typed g h9
      exact t1.apart t2 (by decide) rfl
/-- what the reference's writing leaves of the program's tape -/
theorem JR.frX {si : Int} (hj : JR w base bj bv ev c X E sf) (h : RT w base bx rv R si c) (hf : Fr (fun k => k = bx ∨ rv.ownBlock = some k) w w') : JR w' base bj bv ev c X E sf := by
  refine ⟨hf.blk hj.1 ?_, hj.2.1.fr hf ?_, hj.2.2.fr hf ?_⟩
  · rintro (h9 | h9)
    · exact hj.1.apart h.1 (by decide) h9
    · exact h.2.1.ne hj.1 (by decide) h9
  · rintro g hg (h9 | h9)
    · subst h9
      exact hj.2.1.ne h.1 (by decide) hg
    · obtain ⟨cs1, t1⟩ := hj.2.1.typed g hg
      obtain ⟨cs2, t2⟩ := h.2.1.typed g h9
      exact t1.apart t2 (by decide) rfl
  · rintro g hg (h9 | h9)
    · subst h9
      exact hj.2.2.ne h.1 (by decide) hg
    · obtain ⟨cs1, t1⟩ := hj.2.2.typed g hg
      obtain ⟨cs2, t2⟩ := h.2.1.typed g h9
      exact t1.apart t2 (by decide) rfl
/-- writing into bytes that are neither's -/
theorem St.frI {S : Nat → Prop} (h : St w base bj bx bv ev rv R s c) (hf : Fr S w w') (ht : ∀ k, S k → ∃ cs, Blk w k bT cs) (hb : ∀ k, S k → bv.ownBlock ≠ some k) (hr : ∀ k, S k → ∀ r ∈ R, r.1.ownBlock ≠ some k) : St w' base bj bx bv ev rv R s c := by
  have hty : ∀ (t : TypeId) (g : Nat) (cs : Array Value), Blk w g t cs → t ≠ bT → ¬ S g := by
    intro t g cs hblk hne hs
    obtain ⟨cs2, t2⟩ := ht g hs
    exact hblk.apart t2 hne rfl
  refine ⟨⟨hf.blk h.hj.1 (hty _ _ _ h.hj.1 (by decide)), h.hj.2.1.fr hf (fun g hg hs => hb g hs hg), h.hj.2.2.fr hf (fun g hg => ?_)⟩, ⟨hf.blk h.hx.1 (hty _ _ _ h.hx.1 (by decide)), h.hx.2.1.fr hf (fun g hg => ?_), fun r hr' => (h.hx.2.2 r hr').fr hf (fun g hg hs => hr g hs r hr' hg)⟩, h.sep, h.sle, h.fit, h.by8, h.b1, h.b2⟩
  · obtain ⟨cs1, t1⟩ := h.hj.2.2.typed g hg
    exact hty _ _ _ t1 (by decide)
  · obtain ⟨cs1, t1⟩ := h.hx.2.1.typed g hg
    exact hty _ _ _ t1 (by decide)
/-- both synced -/
theorem St.sync {s' : Nat} (h : St w base bj bx bv ev rv R s c) (hj : JR w' base bj bv ev c (framesL (R.map (·.2))) (endsL 0 (R.map (·.2))) (framesL ((R.map (·.2)).take s')).length) (hx : RT w' base bx rv R s' c) (hs : s' ≤ R.length) : St w' base bj bx bv ev rv R s' c :=
  ⟨hj, hx, h.sep, hs, h.fit, h.by8, h.b1, h.b2⟩
/-- both appended to -/
theorem St.app {bv' ev' rv' : Value} {Q : List Rec} (h : St w base bj bx bv ev rv R s c) (hat : bv'.ownBlock = bv.ownBlock ∨ ∃ g, bv'.ownBlock = some g ∧ w.heap.size ≤ g)
    (hj : JR w' base bj bv' ev' c (framesL (R.map (·.2) ++ Q.map (·.2))) (endsL 0 (R.map (·.2) ++ Q.map (·.2))) (framesL ((R.map (·.2)).take s)).length) (hx : RT w' base bx rv' (R ++ Q) s c)
    (hq : ∀ r ∈ Q, ∀ g, r.1.ownBlock = some g → bv'.ownBlock ≠ some g) (hqf : Fit (Q.map (·.2))) (hq8 : ∀ r ∈ Q, Bytes8 r.2) : St w' base bj bx bv' ev' rv' (R ++ Q) s c := by
  refine ⟨?_, hx, fun r hr g hg => ?_, by rw [List.length_append]; have := h.sle; omega, fun r hr => ?_, fun r hr => ?_, h.b1, h.b2⟩
  · rw [List.map_append, List.take_append_of_le_length (by rw [List.length_map]; exact h.sle)]
    exact hj
  · rcases List.mem_append.1 hr with h9 | h9
    · rcases hat with h10 | ⟨g', h10, h11⟩
      · rw [h10]
        exact h.sep r h9 g hg
      · rw [h10]
        intro h12
        injection h12 with h12
        have := ((h.hx.2.2 r h9).lt g hg).2
        omega
    · exact hq r h9 g hg
  · rw [List.map_append] at hr
    rcases List.mem_append.1 hr with h9 | h9
    · exact h.fit r h9
    · exact hqf r h9
  · rcases List.mem_append.1 hr with h9 | h9
    · exact h.by8 r h9
    · exact hq8 r h9
/-- all is safe (behind a sync, behind a crash) -/
theorem St.all (hj : JR w base bj bv ev c (framesL (R.map (·.2))) (endsL 0 (R.map (·.2))) (framesL (R.map (·.2))).length) (hx : RT w base bx rv R R.length c) (sep : ∀ r ∈ R, ∀ g, r.1.ownBlock = some g → bv.ownBlock ≠ some g) (fit : Fit (R.map (·.2))) (by8 : ∀ r ∈ R, Bytes8 r.2) (b1 : base ≤ bj) (b2 : base ≤ bx) : St w base bj bx bv ev rv R R.length c := by
  refine ⟨?_, hx, sep, Nat.le_refl _, fit, by8, b1, b2⟩
  rw [List.take_of_length_le (by rw [List.length_map]; exact Nat.le_refl _)]
  exact hj
end

end Go.Proofs.Ytlllocfcljgacaa
