/- Cells: places as keys of a map, cells as values; a table in memory. -/
import Derived.Test.YtkobaidamdffmaaMapIt
import Derived.Test.YtkobaidamdffmaaByt
import Derived.Test.YtkobaidamdffmaaWchk
import Derived.WalkSpells
import Derived.WalkLawsBesides
namespace Go.Proofs.Ytkobaidamdffmaa
open Go.RowKit Go.Sort
set_option linter.unusedVariables false
set_option linter.unusedSimpArgs false

/-- a right key: its bytes and its window -/
structure PK where
  b : List Int
  f : Int
  t : Int
  ok : Bytes8 b ∧ b.length ≤ 1048576 ∧ (Win.mk f t).good
theorem PK.eq_iff (p q : PK) : p = q ↔ p.b = q.b ∧ p.f = q.f ∧ p.t = q.t := by
  obtain ⟨b, f, t, h⟩ := p
  obtain ⟨b', f', t', h'⟩ := q
  simp
instance : DecidableEq PK := fun p q => decidable_of_iff _ (PK.eq_iff p q).symm
def PK.win (p : PK) : Win := ⟨p.f, p.t⟩
def plV (p : PK) : Value := .agg #[.string (strOfNums p.b), .int .i64 p.f, .int .i64 p.t]
abbrev plT : Nat := 87
theorem strOf_inj {D E : List Int} (h1 : Bytes8 D) (h2 : Bytes8 E) (h : strOfNums D = strOfNums E) : D = E := by
  have h3 := str_eq D E h1 h2
  rw [h] at h3
  simp only [BEq.rfl] at h3
  exact of_decide_eq_true h3.symm
theorem pl_eq (a b : PK) (w : World) : (Op.equal plT (plV a) (plV b)).run Try.prog w = .ok (decide (a = b)) w := by
  show (Op.equalIn 10000 plT _ _).run _ w = _
  unfold plV
  go_simp
  have hi := PK.eq_iff a b
  obtain ⟨s, f, t, h⟩ := a
  obtain ⟨s', f', t', h'⟩ := b
  simp only at hi
  simp only
  have hl : (strOfNums s).toList = (strOfNums s').toList ↔ s = s' := by
    have h9 := str_eq s s' h.1 h'.1
    constructor
    · intro h8
      rw [h8] at h9
      simp only [BEq.rfl] at h9
      exact of_decide_eq_true h9.symm
    · intro h8; rw [h8]
  by_cases h1 : s = s'
  · by_cases h2 : f = f'
    · by_cases h3 : t = t'
      · simp [h1, h2, h3]
      · simp [h1, h2, h3]
    · simp [h1, h2]
  · rw [if_neg (fun h => h1 (hl.1 h))]
    simp [h1]
theorem pl_chk (e : Bool) (a : PK) (w : World) : (Instr.checkKey e 10000 plT (plV a)).run Try.prog w = .ok () w := by
  obtain ⟨s, f, t, x⟩ := a
  unfold plV
  simp only
  generalize strOfNums s = y
  cases e <;> kernel_rfl
theorem pl_bits (a : PK) : Instr.sameBits 10000 (plV a) (plV a) = true := by
  obtain ⟨b, f, t, h⟩ := a
  unfold plV
  simp only
  generalize strOfNums b = s
  have : Instr.sameBits 10000 (.agg #[.string s, .int .i64 f, .int .i64 t]) (.agg #[.string s, .int .i64 f, .int .i64 t]) = ((s == s) && (((IntKind.i64 == IntKind.i64) && (f == f)) && (((IntKind.i64 == IntKind.i64) && (t == t)) && true))) := by kernel_rfl
  rw [this, beq_toListBytes]
  simp
theorem plW : KeyW Try.prog plT plV := ⟨⟨_, Try.underlying87⟩, pl_eq, pl_chk, pl_bits⟩

/-- what a cell says -/
structure CD where
  b : List Int
  s : Int
  n : Int
  g : Int
  h : Int
  p : Bool
  c : Bool
deriving DecidableEq
def ldS (n g h : Int) (p c : Bool) : Prop := (0 ≤ n ∧ n ≤ 1099511627776) ∧ (0 ≤ g ∧ g ≤ 3) ∧ (0 < n ∨ g = 0) ∧ (0 ≤ h ∧ h ≤ 1099511627776) ∧ (p = true ∨ c = false) ∧ (p = decide (g ≠ 0))
instance (n g h : Int) (p c : Bool) : Decidable (ldS n g h p c) := by unfold ldS; exact inferInstance
def CD.right (d : CD) : Prop := d.b.length ≤ 1048576 ∧ (0 ≤ d.s ∧ d.s ≤ 1048576) ∧ ldS d.n d.g d.h d.p d.c
instance (d : CD) : Decidable d.right := by unfold CD.right; exact inferInstance
/-- a cell in memory -/
structure CV where
  v : Value
  d : CD
def CV.cells (c : CV) : List Value := [c.v, .int .i64 c.d.s, .int .i64 c.d.n, .int .i64 c.d.g, .int .i64 c.d.h, .bool c.d.p, .bool c.d.c]
def cvV (c : CV) : Value := .agg c.cells.toArray
abbrev cvT : Nat := 43
abbrev cmT : Nat := 82
abbrev fmT : Nat := 83
theorem cmU : Try.prog.underlying cmT = some (.map plT cvT) := by kernel_rfl
theorem fmU : Try.prog.underlying fmT = some (.map plT 3) := by kernel_rfl
def cvZ : Value := .agg #[.slice none 0 0, .int .i64 0, .int .i64 0, .int .i64 0, .int .i64 0, .bool false, .bool false]
theorem zeroCv (w : World) : (zeroValue cvT).run Try.prog w = .ok cvZ w := by kernel_rfl
theorem zeroInt (w : World) : (zeroValue 3).run Try.prog w = .ok (.int .i64 0) w := by kernel_rfl
def intV (n : Int) : Value := .int .i64 n
/-- a cell that the table keeps -/
def AccO (w : World) (base : Nat) (c : CV) : Prop := Own w base bT 1 c.v c.d.b.length (bys c.d.b) ∧ Bytes8 c.d.b ∧ c.d.right
theorem AccO.fr {S : Nat → Prop} {w w' : World} {base : Nat} {c : CV} (h : AccO w base c) (hf : Fr S w w') (hs : ∀ g cs, Blk w g bT cs → ¬ S g) : AccO w' base c :=
  ⟨h.1.fr hf (fun g hg => by obtain ⟨cs, hc⟩ := h.1.typed g hg; exact hs g cs hc), h.2⟩
theorem AccO.below {w w' : World} {base : Nat} {c : CV} (h : AccO w base c) (hb : Below w.heap.size w w') : AccO w' base c := ⟨h.1.below hb, h.2⟩
theorem AccO.lower {w : World} {a b : Nat} {c : CV} (h : AccO w b c) (hb : a ≤ b) : AccO w a c := ⟨h.1.lower hb, h.2⟩

abbrev tabT : Nat := 85
/-- what stands while something is begun -/
structure BegS (w : World) (base cb wb fb : Nat) (W : List (PK × CV)) (F : List (PK × Int)) : Prop where
  wm : MapR w wb plV cvV W
  fm : MapR w fb plV intV F
  acc : ∀ p ∈ W, AccO w base p.2
  one : ∀ p ∈ F, p.2 = 1
  bs : base ≤ wb ∧ base ≤ fb
  ne : cb ≠ wb ∧ cb ≠ fb ∧ wb ≠ fb
/-- a table in memory: its cells L; whether something is begun, and then what was (W) and what is fresh (F) -/
structure TabS (w : World) (base tb cb : Nat) (wm fm : Option Nat) (bg : Bool) (L W : List (PK × CV)) (F : List (PK × Int)) : Prop where
  blk : Blk w tb tabT #[.map (some cb), .map wm, .map fm, .bool bg]
  map : MapR w cb plV cvV L
  acc : ∀ p ∈ L, AccO w base p.2
  bs : base ≤ tb ∧ base ≤ cb
  beg : bg = true → ∃ wb fb, wm = some wb ∧ fm = some fb ∧ BegS w base cb wb fb W F
/-- the blocks that a table's calls write -/
def TBk (tb cb : Nat) (wm fm : Option Nat) (bg : Bool) : Nat → Prop := fun j => j = tb ∨ j = cb ∨ (bg = true ∧ (wm = some j ∨ fm = some j))
section
variable {w w' : World} {base tb cb : Nat} {wm fm : Option Nat} {bg : Bool} {L W : List (PK × CV)} {F : List (PK × Int)}
theorem BegS.fr {S : Nat → Prop} {wb fb : Nat} (h : BegS w base cb wb fb W F) (hf : Fr S w w') (h1 : ¬ S wb) (h2 : ¬ S fb) (hs : ∀ g cs, Blk w g bT cs → ¬ S g) : BegS w' base cb wb fb W F :=
  ⟨h.wm.fr hf h1, h.fm.fr hf h2, fun p hp => (h.acc p hp).fr hf hs, h.one, h.bs, h.ne⟩
theorem TabS.below (h : TabS w base tb cb wm fm bg L W F) (hb : Below w.heap.size w w') : TabS w' base tb cb wm fm bg L W F :=
  ⟨h.blk.below hb h.blk.lt, h.map.below hb h.map.lt, fun p hp => (h.acc p hp).below hb, h.bs, fun e => by
    obtain ⟨wb, fb, h1, h2, h3⟩ := h.beg e
    exact ⟨wb, fb, h1, h2, h3.wm.below hb h3.wm.lt, h3.fm.below hb h3.fm.lt, fun p hp => (h3.acc p hp).below hb, h3.one, h3.bs, h3.ne⟩⟩
/-- the blocks that are written are no bytes, and of the table's own -/
theorem TabS.lows (h : TabS w base tb cb wm fm bg L W F) : ∀ j, TBk tb cb wm fm bg j → base ≤ j ∧ j < w.heap.size := by
  rintro j (h1 | h1 | ⟨h0, h1⟩)
  · rw [h1]; exact ⟨h.bs.1, h.blk.lt⟩
  · rw [h1]; exact ⟨h.bs.2, h.map.lt⟩
  · obtain ⟨wb, fb, e1, e2, h3⟩ := h.beg h0
    rcases h1 with h1 | h1
    · rw [e1] at h1; injection h1 with h1; rw [← h1]; exact ⟨h3.bs.1, h3.wm.lt⟩
    · rw [e2] at h1; injection h1 with h1; rw [← h1]; exact ⟨h3.bs.2, h3.fm.lt⟩
theorem TabS.nblk (h : TabS w base tb cb wm fm bg L W F) {g t : Nat} {cs : Array Value} (hb : Blk w g t cs) (ht : t ≠ tabT) : ¬ TBk tb cb wm fm bg g := by
  rintro (h1 | h1 | ⟨h0, h1⟩)
  · rw [h1] at hb; exact (hb.apart h.blk ht) rfl
  · rw [h1] at hb; exact h.map.ne_blk hb rfl
  · obtain ⟨wb, fb, e1, e2, h3⟩ := h.beg h0
    rcases h1 with h1 | h1
    · rw [e1] at h1; injection h1 with h1; rw [← h1] at hb; exact h3.wm.ne_blk hb rfl
    · rw [e2] at h1; injection h1 with h1; rw [← h1] at hb; exact h3.fm.ne_blk hb rfl
/-- other blocks are written -/
theorem TabS.fr {S : Nat → Prop} (h : TabS w base tb cb wm fm bg L W F) (hf : Fr S w w') (hs : ∀ j, TBk tb cb wm fm bg j → ¬ S j) (hb : ∀ g cs, Blk w g bT cs → ¬ S g) : TabS w' base tb cb wm fm bg L W F :=
  ⟨hf.blk h.blk (hs _ (.inl rfl)), h.map.fr hf (hs _ (.inr (.inl rfl))), fun p hp => (h.acc p hp).fr hf hb, h.bs, fun e => by
    obtain ⟨wb, fb, h1, h2, h3⟩ := h.beg e
    exact ⟨wb, fb, h1, h2, h3.fr hf (hs _ (.inr (.inr ⟨e, .inl h1⟩))) (hs _ (.inr (.inr ⟨e, .inr h2⟩))) hb⟩⟩
/-- the cells' map is another -/
theorem TabS.recell (h : TabS w base tb cb wm fm bg L W F) {L' : List (PK × CV)} (hf : Fr (fun j => j = cb) w w') (hm : MapR w' cb plV cvV L') (ha : ∀ p ∈ L', AccO w base p.2) : TabS w' base tb cb wm fm bg L' W F := by
  have hb : ∀ g cs, Blk w g bT cs → ¬ (g = cb) := fun g cs hc e => h.map.ne_blk hc e.symm
  refine ⟨hf.blk h.blk (fun e => h.map.ne_blk h.blk e.symm), hm, fun p hp => (ha p hp).fr hf hb, h.bs, fun e => ?_⟩
  obtain ⟨wb, fb, h1, h2, h3⟩ := h.beg e
  exact ⟨wb, fb, h1, h2, h3.fr hf (fun e => h3.ne.1 e.symm) (fun e => h3.ne.2.1 e.symm) hb⟩
theorem TabS.open (h : TabS w base tb cb wm fm bg L W F) : w.cell? ⟨tb, 0, none⟩ = some (.map (some cb)) ∧ w.cell? ⟨tb, 1, none⟩ = some (.map wm) ∧ w.cell? ⟨tb, 2, none⟩ = some (.map fm) ∧ w.cell? ⟨tb, 3, none⟩ = some (.bool bg) ∧ tb < w.heap.size :=
  ⟨h.blk.cell 0, h.blk.cell 1, h.blk.cell 2, h.blk.cell 3, h.blk.lt⟩
theorem TabS.look (h : TabS w base tb cb wm fm bg L W F) (a : PK) (ok : Bool) : (Instr.lookup cmT (.map (some cb)) (plV a) ok).run Try.prog w = .ok (if ok then .tuple #[((lk L a).map cvV).getD cvZ, .bool (lk L a).isSome] else ((lk L a).map cvV).getD cvZ) w :=
  h.map.look plW cmU zeroCv a ok
end
theorem lk_mem {α β : Type} [DecidableEq α] {L : List (α × β)} {a : α} {c : β} (h : lk L a = some c) : (a, c) ∈ L := by
  induction L with
  | nil => cases h
  | cons p L ih =>
    obtain ⟨b, u⟩ := p
    unfold lk at h
    split at h
    · rename_i e
      subst e
      injection h with h
      subst h
      exact List.mem_cons_self
    · exact List.mem_cons_of_mem _ (ih h)
theorem mem_put {α β : Type} [DecidableEq α] {L : List (α × β)} {a : α} {c : β} {p : α × β} (h : p ∈ putM L a c) : p ∈ L ∨ p = (a, c) := by
  induction L with
  | nil => exact .inr (by simpa [putM] using h)
  | cons q L ih =>
    obtain ⟨b, u⟩ := q
    unfold putM at h
    split at h
    · rename_i e
      rcases List.mem_cons.1 h with h | h
      · exact .inr h
      · exact .inl (List.mem_cons_of_mem _ h)
    · rcases List.mem_cons.1 h with h | h
      · exact .inl (by rw [h]; exact List.mem_cons_self)
      · exact (ih h).imp (List.mem_cons_of_mem _) id
theorem mem_del {α β : Type} [DecidableEq α] {L : List (α × β)} {a : α} {p : α × β} (h : p ∈ delM L a) : p ∈ L := by
  induction L with
  | nil => cases h
  | cons q L ih =>
    obtain ⟨b, u⟩ := q
    unfold delM at h
    split at h
    · exact List.mem_cons_of_mem _ h
    · rcases List.mem_cons.1 h with h | h
      · rw [h]; exact List.mem_cons_self
      · exact List.mem_cons_of_mem _ (ih h)

end Go.Proofs.Ytkobaidamdffmaa
