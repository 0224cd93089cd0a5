/- Cells: places as keys of a map, cells as values; a table in memory. / Cells: at, right of a key, right of a cell (trigger.Load of a state). -/
import Derived.Test.YtkobaidamdffmaaQCellsPlays02
import Derived.Test.YtkobaidamdffmaaQCellsPlays01
import Derived.WalkSpells
import Derived.WalkLawsBesides
import Derived.Test.YtkobaidamdffmaaQCellsPlays00

namespace Go.Proofs.Ytkobaidamdffmaa
open Go.RowKit Go.Sort
set_option linter.unusedVariables false
set_option linter.unusedSimpArgs false

/-- a right key: its bytes and its window -/
structure PK where
  b : List Int
  f : Int
  t : Int
  ok : Bytes8 b ∧ b.length ≤ 1048576 ∧ (Win.mk f t).good
theorem PK.eq_iff (p q : PK) : p = q ↔ p.b = q.b ∧ p.f = q.f ∧ p.t = q.t := by
  obtain ⟨b, f, t, h⟩ := p
  obtain ⟨b', f', t', h'⟩ := q
  simp
instance : DecidableEq PK := fun p q => decidable_of_iff _ (PK.eq_iff p q).symm
def PK.win (p : PK) : Win := ⟨p.f, p.t⟩
def plV (p : PK) : Value := .agg #[.string (strOfNums p.b), .int .i64 p.f, .int .i64 p.t]
abbrev plT : Nat := 87
theorem strOf_inj {D E : List Int} (h1 : Bytes8 D) (h2 : Bytes8 E) (h : strOfNums D = strOfNums E) : D = E := by
  have h3 := str_eq D E h1 h2
  rw [h] at h3
  simp only [BEq.rfl] at h3
  exact of_decide_eq_true h3.symm
theorem pl_eq (a b : PK) (w : World) : (Op.equal plT (plV a) (plV b)).run Try.prog w = .ok (decide (a = b)) w := by
  show (Op.equalIn 10000 plT _ _).run _ w = _
  unfold plV
  go_simp
  have hi := PK.eq_iff a b
  obtain ⟨s, f, t, h⟩ := a
  obtain ⟨s', f', t', h'⟩ := b
  simp only at hi
  simp only
  have hl : (strOfNums s).toList = (strOfNums s').toList ↔ s = s' := by
    have h9 := str_eq s s' h.1 h'.1
    constructor
    · intro h8
      rw [h8] at h9
      simp only [BEq.rfl] at h9
      exact of_decide_eq_true h9.symm
    · intro h8; rw [h8]
  by_cases h1 : s = s'
  · by_cases h2 : f = f'
    · by_cases h3 : t = t'
      · simp [h1, h2, h3]
      · simp [h1, h2, h3]
    · simp [h1, h2]
  · rw [if_neg (fun h => h1 (hl.1 h))]
    simp [h1]
theorem pl_chk (e : Bool) (a : PK) (w : World) : (Instr.checkKey e 10000 plT (plV a)).run Try.prog w = .ok () w := by
  obtain ⟨s, f, t, x⟩ := a
  unfold plV
  simp only
  generalize strOfNums s = y
  cases e <;> kernel_rfl
theorem pl_bits (a : PK) : Instr.sameBits 10000 (plV a) (plV a) = true := by
  obtain ⟨b, f, t, h⟩ := a
  unfold plV
  simp only
  generalize strOfNums b = s
  have : Instr.sameBits 10000 (.agg #[.string s, .int .i64 f, .int .i64 t]) (.agg #[.string s, .int .i64 f, .int .i64 t]) = ((s == s) && (((IntKind.i64 == IntKind.i64) && (f == f)) && (((IntKind.i64 == IntKind.i64) && (t == t)) && true))) := by kernel_rfl
  rw [this, beq_toListBytes]
  simp
theorem plW : KeyW Try.prog plT plV := ⟨⟨_, Try.underlying87⟩, pl_eq, pl_chk, pl_bits⟩

/-- what a cell says -/
structure CD where
  b : List Int
  s : Int
  n : Int
  g : Int
  h : Int
  p : Bool
  c : Bool
deriving DecidableEq
def ldS (n g h : Int) (p c : Bool) : Prop := (0 ≤ n ∧ n ≤ 1099511627776) ∧ (0 ≤ g ∧ g ≤ 3) ∧ (0 < n ∨ g = 0) ∧ (0 ≤ h ∧ h ≤ 1099511627776) ∧ (p = true ∨ c = false) ∧ (p = decide (g ≠ 0))
instance (n g h : Int) (p c : Bool) : Decidable (ldS n g h p c) := by unfold ldS; exact inferInstance
def CD.right (d : CD) : Prop := d.b.length ≤ 1048576 ∧ (0 ≤ d.s ∧ d.s ≤ 1048576) ∧ ldS d.n d.g d.h d.p d.c
instance (d : CD) : Decidable d.right := by unfold CD.right; exact inferInstance
/-- a cell in memory -/
structure CV where
  v : Value
  d : CD
def CV.cells (c : CV) : List Value := [c.v, .int .i64 c.d.s, .int .i64 c.d.n, .int .i64 c.d.g, .int .i64 c.d.h, .bool c.d.p, .bool c.d.c]
def cvV (c : CV) : Value := .agg c.cells.toArray
abbrev cvT : Nat := 43
abbrev cmT : Nat := 82
abbrev fmT : Nat := 83
theorem cmU : Try.prog.underlying cmT = some (.map plT cvT) := by kernel_rfl
theorem fmU : Try.prog.underlying fmT = some (.map plT 3) := by kernel_rfl
def cvZ : Value := .agg #[.slice none 0 0, .int .i64 0, .int .i64 0, .int .i64 0, .int .i64 0, .bool false, .bool false]
theorem zeroCv (w : World) : (zeroValue cvT).run Try.prog w = .ok cvZ w := by kernel_rfl
theorem zeroInt (w : World) : (zeroValue 3).run Try.prog w = .ok (.int .i64 0) w := by kernel_rfl
def intV (n : Int) : Value := .int .i64 n
/-- a cell that the table keeps -/
def AccO (w : World) (base : Nat) (c : CV) : Prop := Own w base bT 1 c.v c.d.b.length (bys c.d.b) ∧ Bytes8 c.d.b ∧ c.d.right
theorem AccO.fr {S : Nat → Prop} {w w' : World} {base : Nat} {c : CV} (h : AccO w base c) (hf : Fr S w w') (hs : ∀ g cs, Blk w g bT cs → ¬ S g) : AccO w' base c :=
  ⟨h.1.fr hf (fun g hg => by obtain ⟨cs, hc⟩ := h.1.typed g hg; exact hs g cs hc), h.2⟩
theorem AccO.below {w w' : World} {base : Nat} {c : CV} (h : AccO w base c) (hb : Below w.heap.size w w') : AccO w' base c := ⟨h.1.below hb, h.2⟩
theorem AccO.lower {w : World} {a b : Nat} {c : CV} (h : AccO w b c) (hb : a ≤ b) : AccO w a c := ⟨h.1.lower hb, h.2⟩

abbrev tabT : Nat := 85
/-- what stands while something is begun -/
structure BegS (w : World) (base cb wb fb : Nat) (W : List (PK × CV)) (F : List (PK × Int)) : Prop where
  wm : MapR w wb plV cvV W
  fm : MapR w fb plV intV F
  acc : ∀ p ∈ W, AccO w base p.2
  one : ∀ p ∈ F, p.2 = 1
  bs : base ≤ wb ∧ base ≤ fb
  ne : cb ≠ wb ∧ cb ≠ fb ∧ wb ≠ fb
/-- a table in memory: its cells L; whether something is begun, and then what was (W) and what is fresh (F) -/
structure TabS (w : World) (base tb cb : Nat) (wm fm : Option Nat) (bg : Bool) (L W : List (PK × CV)) (F : List (PK × Int)) : Prop where
  blk : Blk w tb tabT #[.map (some cb), .map wm, .map fm, .bool bg]
  map : MapR w cb plV cvV L
  acc : ∀ p ∈ L, AccO w base p.2
  bs : base ≤ tb ∧ base ≤ cb
  beg : bg = true → ∃ wb fb, wm = some wb ∧ fm = some fb ∧ BegS w base cb wb fb W F
/-- the blocks that a table's calls write -/
def TBk (tb cb : Nat) (wm fm : Option Nat) (bg : Bool) : Nat → Prop := fun j => j = tb ∨ j = cb ∨ (bg = true ∧ (wm = some j ∨ fm = some j))
section
variable {w w' : World} {base tb cb : Nat} {wm fm : Option Nat} {bg : Bool} {L W : List (PK × CV)} {F : List (PK × Int)}
theorem BegS.fr {S : Nat → Prop} {wb fb : Nat} (h : BegS w base cb wb fb W F) (hf : Fr S w w') (h1 : ¬ S wb) (h2 : ¬ S fb) (hs : ∀ g cs, Blk w g bT cs → ¬ S g) : BegS w' base cb wb fb W F :=
  ⟨h.wm.fr hf h1, h.fm.fr hf h2, fun p hp => (h.acc p hp).fr hf hs, h.one, h.bs, h.ne⟩
theorem TabS.below (h : TabS w base tb cb wm fm bg L W F) (hb : Below w.heap.size w w') : TabS w' base tb cb wm fm bg L W F :=
  ⟨h.blk.below hb h.blk.lt, h.map.below hb h.map.lt, fun p hp => (h.acc p hp).below hb, h.bs, fun e => by
    obtain ⟨wb, fb, h1, h2, h3⟩ := h.beg e
    exact ⟨wb, fb, h1, h2, h3.wm.below hb h3.wm.lt, h3.fm.below hb h3.fm.lt, fun p hp => (h3.acc p hp).below hb, h3.one, h3.bs, h3.ne⟩⟩
/-- the blocks that are written are no bytes, and of the table's own -/
theorem TabS.lows (h : TabS w base tb cb wm fm bg L W F) : ∀ j, TBk tb cb wm fm bg j → base ≤ j ∧ j < w.heap.size := by
  rintro j (h1 | h1 | ⟨h0, h1⟩)
  · rw [h1]; exact ⟨h.bs.1, h.blk.lt⟩
  · rw [h1]; exact ⟨h.bs.2, h.map.lt⟩
  · obtain ⟨wb, fb, e1, e2, h3⟩ := h.beg h0
    rcases h1 with h1 | h1
    · rw [e1] at h1; injection h1 with h1; rw [← h1]; exact ⟨h3.bs.1, h3.wm.lt⟩
    · rw [e2] at h1; injection h1 with h1; rw [← h1]; exact ⟨h3.bs.2, h3.fm.lt⟩
theorem TabS.nblk (h : TabS w base tb cb wm fm bg L W F) {g t : Nat} {cs : Array Value} (hb : Blk w g t cs) (ht : t ≠ tabT) : ¬ TBk tb cb wm fm bg g := by
  rintro (h1 | h1 | ⟨h0, h1⟩)
  · rw [h1] at hb; exact (hb.apart h.blk ht) rfl
  · rw [h1] at hb; exact h.map.ne_blk hb rfl
  · obtain ⟨wb, fb, e1, e2, h3⟩ := h.beg h0
    rcases h1 with h1 | h1
    · rw [e1] at h1; injection h1 with h1; rw [← h1] at hb; exact h3.wm.ne_blk hb rfl
    · rw [e2] at h1; injection h1 with h1; rw [← h1] at hb; exact h3.fm.ne_blk hb rfl
/-- other blocks are written -/
theorem TabS.fr {S : Nat → Prop} (h : TabS w base tb cb wm fm bg L W F) (hf : Fr S w w') (hs : ∀ j, TBk tb cb wm fm bg j → ¬ S j) (hb : ∀ g cs, Blk w g bT cs → ¬ S g) : TabS w' base tb cb wm fm bg L W F :=
  ⟨hf.blk h.blk (hs _ (.inl rfl)), h.map.fr hf (hs _ (.inr (.inl rfl))), fun p hp => (h.acc p hp).fr hf hb, h.bs, fun e => by
    obtain ⟨wb, fb, h1, h2, h3⟩ := h.beg e
    exact ⟨wb, fb, h1, h2, h3.fr hf (hs _ (.inr (.inr ⟨e, .inl h1⟩))) (hs _ (.inr (.inr ⟨e, .inr h2⟩))) hb⟩⟩
/-- the cells' map is another -/
theorem TabS.recell (h : TabS w base tb cb wm fm bg L W F) {L' : List (PK × CV)} (hf : Fr (fun j => j = cb) w w') (hm : MapR w' cb plV cvV L') (ha : ∀ p ∈ L', AccO w base p.2) : TabS w' base tb cb wm fm bg L' W F := by
  have hb : ∀ g cs, Blk w g bT cs → ¬ (g = cb) := fun g cs hc e => h.map.ne_blk hc e.symm
  refine ⟨hf.blk h.blk (fun e => h.map.ne_blk h.blk e.symm), hm, fun p hp => (ha p hp).fr hf hb, h.bs, fun e => ?_⟩
  obtain ⟨wb, fb, h1, h2, h3⟩ := h.beg e
  exact ⟨wb, fb, h1, h2, h3.fr hf (fun e => h3.ne.1 e.symm) (fun e => h3.ne.2.1 e.symm) hb⟩
theorem TabS.open (h : TabS w base tb cb wm fm bg L W F) : w.cell? ⟨tb, 0, none⟩ = some (.map (some cb)) ∧ w.cell? ⟨tb, 1, none⟩ = some (.map wm) ∧ w.cell? ⟨tb, 2, none⟩ = some (.map fm) ∧ w.cell? ⟨tb, 3, none⟩ = some (.bool bg) ∧ tb < w.heap.size :=
  ⟨h.blk.cell 0, h.blk.cell 1, h.blk.cell 2, h.blk.cell 3, h.blk.lt⟩
theorem TabS.look (h : TabS w base tb cb wm fm bg L W F) (a : PK) (ok : Bool) : (Instr.lookup cmT (.map (some cb)) (plV a) ok).run Try.prog w = .ok (if ok then .tuple #[((lk L a).map cvV).getD cvZ, .bool (lk L a).isSome] else ((lk L a).map cvV).getD cvZ) w :=
  h.map.look plW cmU zeroCv a ok
end
theorem lk_mem {α β : Type} [DecidableEq α] {L : List (α × β)} {a : α} {c : β} (h : lk L a = some c) : (a, c) ∈ L := by
  induction L with
  | nil => cases h
  | cons p L ih =>
    obtain ⟨b, u⟩ := p
    unfold lk at h
    split at h
    · rename_i e
      subst e
      injection h with h
      subst h
      exact List.mem_cons_self
    · exact List.mem_cons_of_mem _ (ih h)
theorem mem_put {α β : Type} [DecidableEq α] {L : List (α × β)} {a : α} {c : β} {p : α × β} (h : p ∈ putM L a c) : p ∈ L ∨ p = (a, c) := by
  induction L with
  | nil => exact .inr (by simpa [putM] using h)
  | cons q L ih =>
    obtain ⟨b, u⟩ := q
    unfold putM at h
    split at h
    · rename_i e
      rcases List.mem_cons.1 h with h | h
      · exact .inr h
      · exact .inl (List.mem_cons_of_mem _ h)
    · rcases List.mem_cons.1 h with h | h
      · exact .inl (by rw [h]; exact List.mem_cons_self)
      · exact (ih h).imp (List.mem_cons_of_mem _) id
theorem mem_del {α β : Type} [DecidableEq α] {L : List (α × β)} {a : α} {p : α × β} (h : p ∈ delM L a) : p ∈ L := by
  induction L with
  | nil => cases h
  | cons q L ih =>
    obtain ⟨b, u⟩ := q
    unfold delM at h
    split at h
    · exact List.mem_cons_of_mem _ h
    · rcases List.mem_cons.1 h with h | h
      · rw [h]; exact List.mem_cons_self
      · exact List.mem_cons_of_mem _ (ih h)

end Go.Proofs.Ytkobaidamdffmaa

namespace Go.Proofs.Ytkobaidamdffmaa
open Go.RowKit Go.Sort
set_option linter.unusedVariables false
set_option linter.unusedSimpArgs false

abbrev keyT : Nat := 39
set_option maxHeartbeats 2000000 in
theorem at_any (v : Value) (D : List Int) (n B : Nat) (f t : Int) (w : World) (hs : Sl w B v 1 n (bys D)) (hD : D.length = n) (hB : B ≤ w.heap.size) :
    Calls Try.prog 34 #[.agg #[v, .int .i64 f, .int .i64 t]] w fun e w' => e = .returned (.agg #[.string (strOfNums D), .int .i64 f, .int .i64 t]) ∧ Below w.heap.size w w' := by
  obtain ⟨A, c, rfl, hc⟩ := hs.form
  have HST : Hid (∀ X : World, Below w.heap.size w X → (convert 23 9 (.slice A n c)).run Try.prog X = .ok (.string (strOfNums D)) X) := fun X h => bys_str _ D n B X (hs.below (h.mono hB)) hD
  have hst := HST.out _ (((Below.refl w.heap.size w).alloc (Nat.le_refl _) (.cells #[.slice A n c, .int .i64 f, .int .i64 t] keyT)).alloc (by simp) (.cells #[.string ⟨#[]⟩, .int .i64 0, .int .i64 0] plT))
  clear hs hD
  go_enter Try.func34, Try.ntmps34
  go_wp2_with fail
  have hB1 : Below w.heap.size w ((w.alloc (.cells #[.slice A n c, .int .i64 f, .int .i64 t] keyT)).alloc (.cells #[.string (strOfNums D), .int .i64 f, .int .i64 t] plT)) := ((Below.refl w.heap.size w).alloc (Nat.le_refl _) _).alloc (by simp) _
  have hK : Blk ((w.alloc (.cells #[.slice A n c, .int .i64 f, .int .i64 t] keyT)).alloc (.cells #[.string (strOfNums D), .int .i64 f, .int .i64 t] plT)) (w.heap.size + 1) plT #[.string (strOfNums D), .int .i64 f, .int .i64 t] := by
    have h9 := Blk.new (w.alloc (.cells #[.slice A n c, .int .i64 f, .int .i64 t] keyT)) plT #[.string (strOfNums D), .int .i64 f, .int .i64 t]
    simpa using h9
  generalize ((w.alloc (.cells #[.slice A n c, .int .i64 f, .int .i64 t] keyT)).alloc (.cells #[.string (strOfNums D), .int .i64 f, .int .i64 t] plT)) = w5 at *
  have c0 : w5.cell? ⟨w.heap.size + 1, 0, none⟩ = some (.string (strOfNums D)) := hK.cell 0
  have c1 : w5.cell? ⟨w.heap.size + 1, 1, none⟩ = some (.int .i64 f) := hK.cell 1
  have c2 : w5.cell? ⟨w.heap.size + 1, 2, none⟩ = some (.int .i64 t) := hK.cell 2
  have hres : Try.f34.results = #[.cell 2 plT] := by kernel_rfl
  refine bodyPost_ret (v := .agg #[.string (strOfNums D), .int .i64 f, .int .i64 t]) ?_ rfl ⟨rfl, hB1⟩
  simp [results, hres, go_sem, c0, c1, c2]

/-- may a key be? -/
def keyR (n : Nat) (f t : Int) : Prop := n ≤ 1048576 ∧ (Win.mk f t).good
instance (n : Nat) (f t : Int) : Decidable (keyR n f t) := by unfold keyR; exact inferInstance
set_option maxHeartbeats 2000000 in
theorem kright_any (A : Option Addr) (n c : Nat) (f t : Int) (w : World) :
    Calls Try.prog 32 #[.agg #[.slice A n c, .int .i64 f, .int .i64 t]] w fun e w' => e = .returned (.bool (decide (keyR n f t))) ∧ Below w.heap.size w w' := by
  obtain ⟨r, hr⟩ : ∃ r : Bool, r = decide (keyR n f t) := ⟨_, rfl⟩
  rw [← hr]
  have HR := hide hr
  clear hr
  have HB : Hid (Below w.heap.size w (w.alloc (.cells #[.slice A n c, .int .i64 f, .int .i64 t] keyT))) := (Below.refl _ _).alloc (Nat.le_refl _) _
  by_cases h1 : n ≤ 1048576
  · by_cases h2 : (Win.mk f t).good
    · have HF : Hid (r = true) := by show _ = _; rw [HR.out]; exact decide_eq_true ⟨h1, h2⟩
      have HG := hide h2
      clear h2
      go_enter Try.func32, Try.ntmps32
      go_wp2_with fail
      refine (wcheck_any f t _).mono ?_
      rw [if_pos HG.out]
      rintro e w2 ⟨rfl, hb⟩
      have HB2 := hide (HB.out.trans (hb.mono HB.out.size))
      clear hb
      go_wp2_with fail
      go_ret
      rw [HF.out]
      exact ⟨rfl, HB2.out⟩
    · have HF : Hid (r = false) := by show _ = _; rw [HR.out]; exact decide_eq_false (fun h => h2 h.2)
      have HG := hide h2
      clear h2
      go_enter Try.func32, Try.ntmps32
      go_wp2_with fail
      refine (wcheck_any f t _).mono ?_
      rw [if_neg HG.out]
      rintro e w2 ⟨rfl, hb⟩
      have HB2 := hide (HB.out.trans (hb.mono HB.out.size))
      clear hb
      go_wp2_with fail
      go_ret
      rw [HF.out]
      exact ⟨rfl, HB2.out⟩
  · have HF : Hid (r = false) := by show _ = _; rw [HR.out]; exact decide_eq_false (fun h => h1 h.1)
    go_enter Try.func32, Try.ntmps32
    go_wp2_with fail
    go_ret
    rw [HF.out]
    exact ⟨rfl, HB.out⟩

theorem btw_any (x a b : Int) (w : World) : Calls Try.prog 76 #[.int .i64 x, .int .i64 a, .int .i64 b] w fun e w' => e = .returned (.bool (decide (a ≤ x ∧ x ≤ b))) ∧ w' = w := by
  obtain ⟨r, hr⟩ : ∃ r : Bool, r = decide (a ≤ x ∧ x ≤ b) := ⟨_, rfl⟩
  rw [← hr]
  have HR := hide hr
  clear hr
  by_cases h1 : a ≤ x
  · have HF : Hid (r = decide (x ≤ b)) := by show _ = _; rw [HR.out]; simp [h1]
    go_enter Try.func76, Try.ntmps76
    go_wp2_with fail
    go_ret
    rw [HF.out]
    exact ⟨rfl, rfl⟩
  · have HF : Hid (r = false) := by show _ = _; rw [HR.out]; simp [h1]
    go_enter Try.func76, Try.ntmps76
    go_wp2_with fail
    go_ret
    rw [HF.out]
    exact ⟨rfl, rfl⟩

/-- may a line's state be? -/
def lineR (n g : Int) : Prop := (0 ≤ n ∧ n ≤ 1099511627776) ∧ (0 ≤ g ∧ g ≤ 3) ∧ (0 < n ∨ g = 0)
instance (n g : Int) : Decidable (lineR n g) := by unfold lineR; exact inferInstance
def PLoadP (w : World) (n g : Int) (e : Ending) (w' : World) : Prop := ∃ u, e = .returned (.tuple #[.pointer u, .int .i64 (if lineR n g then 0 else 90)]) ∧ Below w.heap.size w w'
set_option maxHeartbeats 2000000 in
theorem pload_any (n g : Int) (w : World) : Calls Try.prog 74 #[.int .i64 n, .int .i64 g] w (PLoadP w n g) := by
  have hc : n < 0 ∨ (¬ n < 0 ∧ 1099511627776 < n) ∨ (¬ n < 0 ∧ ¬ 1099511627776 < n ∧ g < 0) ∨ (¬ n < 0 ∧ ¬ 1099511627776 < n ∧ ¬ g < 0 ∧ 3 < g) ∨ (¬ n < 0 ∧ ¬ 1099511627776 < n ∧ ¬ g < 0 ∧ ¬ 3 < g ∧ n = 0 ∧ g ≠ 0) ∨ (¬ n < 0 ∧ ¬ 1099511627776 < n ∧ ¬ g < 0 ∧ ¬ 3 < g ∧ n = 0 ∧ g = 0) ∨ (¬ n < 0 ∧ ¬ 1099511627776 < n ∧ ¬ g < 0 ∧ ¬ 3 < g ∧ n ≠ 0) := by omega
  rcases hc with h1 | ⟨h1, h2⟩ | ⟨h1, h2, h3⟩ | ⟨h1, h2, h3, h4⟩ | ⟨h1, h2, h3, h4, h5, h6⟩ | ⟨h1, h2, h3, h4, h5, h6⟩ | ⟨h1, h2, h3, h4, h5⟩
  · have HF : Hid ((if lineR n g then (0 : Int) else 90) = 90) := if_neg (by unfold lineR; omega)
    go_enter Try.func74, Try.ntmps74
    go_wp2_with fail
    go_ret2
    exact ⟨none, by rw [HF.out]; rfl, Below.refl _ _⟩
  · have HF : Hid ((if lineR n g then (0 : Int) else 90) = 90) := if_neg (by unfold lineR; omega)
    go_enter Try.func74, Try.ntmps74
    go_wp2_with fail
    go_ret2
    exact ⟨none, by rw [HF.out]; rfl, Below.refl _ _⟩
  · have HF : Hid ((if lineR n g then (0 : Int) else 90) = 90) := if_neg (by unfold lineR; omega)
    go_enter Try.func74, Try.ntmps74
    go_wp2_with fail
    go_ret2
    exact ⟨none, by rw [HF.out]; rfl, Below.refl _ _⟩
  · have HF : Hid ((if lineR n g then (0 : Int) else 90) = 90) := if_neg (by unfold lineR; omega)
    go_enter Try.func74, Try.ntmps74
    go_wp2_with fail
    go_ret2
    exact ⟨none, by rw [HF.out]; rfl, Below.refl _ _⟩
  · have HF : Hid ((if lineR n g then (0 : Int) else 90) = 90) := if_neg (by unfold lineR; omega)
    have e1 : (n == 0) = true := by simp [h5]
    have e2 : (g != 0) = true := by simp [h6]
    clear h5 h6
    go_enter Try.func74, Try.ntmps74
    go_wp2_with fail
    go_ret2
    exact ⟨none, by rw [HF.out]; rfl, Below.refl _ _⟩
  · have HF : Hid ((if lineR n g then (0 : Int) else 90) = 0) := if_pos (by unfold lineR; omega)
    subst h5 h6
    go_enter Try.func74, Try.ntmps74
    go_wp2_with fail
    go_ret2
    exact ⟨_, by rw [HF.out]; rfl, (Below.refl _ _).alloc (Nat.le_refl _) _⟩
  · have HF : Hid ((if lineR n g then (0 : Int) else 90) = 0) := if_pos (by unfold lineR; omega)
    have e1 : (n == 0) = false := by simp [h5]
    go_enter Try.func74, Try.ntmps74
    go_wp2_with fail
    go_ret2
    exact ⟨_, by rw [HF.out]; rfl, (Below.refl _ _).alloc (Nat.le_refl _) _⟩

theorem schk_any (w : World) : Calls Try.prog 75 #[.agg #[.int .i64 0, .int .i64 0, .int .i64 0, .bool false]] w fun e w' => e = .returned (.int .i64 0) ∧ Below w.heap.size w w' := by
  go_enter Try.func75, Try.ntmps75
  go_wp2_with (go_at_call 76; refine (btw_any _ _ _ _).mono ?_; rintro e w' ⟨rfl, rfl⟩)
  go_ret
  exact ⟨rfl, (Below.refl _ _).alloc (Nat.le_refl _) _⟩

def ldP (w : World) (n g h : Int) (p c : Bool) (e : Ending) (w' : World) : Prop := ∃ u, e = .returned (.tuple #[.pointer u, .int .i64 (if ldS n g h p c then 0 else 100)]) ∧ Below w.heap.size w w'
abbrev stT : Nat := 41
abbrev spT : Nat := 117
set_option maxHeartbeats 4000000 in
theorem tload_any (n g h : Int) (p c : Bool) (w : World) : Calls Try.prog 62 #[.agg #[.int .i64 0, .int .i64 0, .int .i64 0, .bool false], .agg #[.int .i64 n, .int .i64 g, .int .i64 h, .bool p, .bool c]] w (ldP w n g h p c) := by
  have HB : Hid (Below w.heap.size w ((w.alloc (.cells #[.int .i64 0, .int .i64 0, .int .i64 0, .bool false] spT)).alloc (.cells #[.int .i64 n, .int .i64 g, .int .i64 h, .bool p, .bool c] stT))) := ((Below.refl w.heap.size w).alloc (Nat.le_refl _) _).alloc (by simp) _
  have HP : Hid (Blk ((w.alloc (.cells #[.int .i64 0, .int .i64 0, .int .i64 0, .bool false] spT)).alloc (.cells #[.int .i64 n, .int .i64 g, .int .i64 h, .bool p, .bool c] stT)) w.heap.size spT #[.int .i64 0, .int .i64 0, .int .i64 0, .bool false]) := (Blk.new w _ _).alloc _
  have HS : Hid (Blk ((w.alloc (.cells #[.int .i64 0, .int .i64 0, .int .i64 0, .bool false] spT)).alloc (.cells #[.int .i64 n, .int .i64 g, .int .i64 h, .bool p, .bool c] stT)) (w.heap.size + 1) stT #[.int .i64 n, .int .i64 g, .int .i64 h, .bool p, .bool c]) := by
    have h9 := Blk.new (w.alloc (.cells #[.int .i64 0, .int .i64 0, .int .i64 0, .bool false] spT)) stT #[.int .i64 n, .int .i64 g, .int .i64 h, .bool p, .bool c]
    simpa [Hid] using h9
  have HSP : Hid (∀ X : World, Below w.heap.size w X → Blk X w.heap.size spT #[.int .i64 0, .int .i64 0, .int .i64 0, .bool false] → Blk X (w.heap.size + 1) stT #[.int .i64 n, .int .i64 g, .int .i64 h, .bool p, .bool c] → True) := fun _ _ _ _ => trivial
  go_enter Try.func62, Try.ntmps62
  go_wp2_with fail
  generalize (w.alloc (.cells #[.int .i64 0, .int .i64 0, .int .i64 0, .bool false] spT)).alloc (.cells #[.int .i64 n, .int .i64 g, .int .i64 h, .bool p, .bool c] stT) = w1 at *
  obtain ⟨pb, hpb⟩ : ∃ pb, pb = w.heap.size := ⟨_, rfl⟩
  obtain ⟨sb, hsb⟩ : ∃ sb, sb = w.heap.size + 1 := ⟨_, rfl⟩
  rw [← hsb] at HS ⊢
  rw [← hpb] at HP ⊢
  clear hpb hsb HSP
  refine (pload_any n g w1).mono ?_
  rintro e w2 ⟨u, rfl, hb2⟩
  have HB2 := hide (HB.out.trans (hb2.mono HB.out.size))
  have HP2 := hide (HP.out.below hb2 HP.out.lt)
  have HS2 := hide (HS.out.below hb2 HS.out.lt)
  clear hb2
  have p0 : w2.cell? ⟨pb, 0, none⟩ = some (.int .i64 0) := HP2.out.cell 0
  have p1 : w2.cell? ⟨pb, 1, none⟩ = some (.int .i64 0) := HP2.out.cell 1
  have p2 : w2.cell? ⟨pb, 2, none⟩ = some (.int .i64 0) := HP2.out.cell 2
  have p3 : w2.cell? ⟨pb, 3, none⟩ = some (.bool false) := HP2.out.cell 3
  have hpl := HP2.out.lt
  have hln : (lineR n g ∧ (if lineR n g then (0 : Int) else 90) = 0) ∨ (¬ lineR n g ∧ (if lineR n g then (0 : Int) else 90) = 90) := by
    by_cases h9 : lineR n g
    · exact .inl ⟨h9, if_pos h9⟩
    · exact .inr ⟨h9, if_neg h9⟩
  generalize (if lineR n g then (0 : Int) else 90) = le at *
  go_wp2_with fail
  refine (schk_any w2).mono ?_
  rintro e w3 ⟨rfl, hb3⟩
  have HB3 := hide (HB2.out.trans (hb3.mono HB2.out.size))
  have HP3 := hide (HP2.out.below hb3 HP2.out.lt)
  have HS3 := hide (HS2.out.below hb3 HS2.out.lt)
  clear hb3 p0 p1 p2 p3 hpl
  have p0 : w3.cell? ⟨pb, 0, none⟩ = some (.int .i64 0) := HP3.out.cell 0
  have p1 : w3.cell? ⟨pb, 1, none⟩ = some (.int .i64 0) := HP3.out.cell 1
  have p2 : w3.cell? ⟨pb, 2, none⟩ = some (.int .i64 0) := HP3.out.cell 2
  have p3 : w3.cell? ⟨pb, 3, none⟩ = some (.bool false) := HP3.out.cell 3
  have hpl := HP3.out.lt
  have q0 : w3.cell? ⟨sb, 0, none⟩ = some (.int .i64 n) := HS3.out.cell 0
  have q1 : w3.cell? ⟨sb, 1, none⟩ = some (.int .i64 g) := HS3.out.cell 1
  have q2 : w3.cell? ⟨sb, 2, none⟩ = some (.int .i64 h) := HS3.out.cell 2
  have q3 : w3.cell? ⟨sb, 3, none⟩ = some (.bool p) := HS3.out.cell 3
  have q4 : w3.cell? ⟨sb, 4, none⟩ = some (.bool c) := HS3.out.cell 4
  have hql := HS3.out.lt
  rcases hln with ⟨hl, rfl⟩ | ⟨hl, rfl⟩
  · have HL := hide hl
    clear hl
    by_cases hh : 0 ≤ h ∧ h ≤ 1099511627776
    · have HH := hide hh
      have hhd : decide (0 ≤ h ∧ h ≤ 1099511627776) = true := decide_eq_true hh
      have HBT : Hid (∀ X : World, Calls Try.prog 76 #[.int .i64 h, .int .i64 0, .int .i64 1099511627776] X fun e w' => e = .returned (.bool true) ∧ w' = X) := fun X => by
        have h9 := btw_any h 0 1099511627776 X
        rw [hhd] at h9
        exact h9
      clear hh hhd
      cases hp : p
      · cases hc : c
        · by_cases hg : g = 0
          · have HF : Hid ((if ldS n g h false false then (0 : Int) else 100) = 0) := if_pos (by have := HL.out; have := HH.out; unfold ldS lineR at *; simp [hg]; omega)
            subst hp hc hg
            go_wp2_with fail
            refine (HBT.out _).mono ?_
            rintro e w4 ⟨rfl, rfl⟩
            go_wp2_with fail
            go_ret2
            exact ⟨_, by rw [HF.out]; rfl, HB3.out.alloc HB3.out.size _⟩
          · have HF : Hid ((if ldS n g h false false then (0 : Int) else 100) = 100) := if_neg (by unfold ldS; simp [hg])
            have e1 : (g != 0) = true := by simp [hg]
            subst hp hc
            clear hg
            go_wp2_with fail
            refine (HBT.out _).mono ?_
            rintro e w4 ⟨rfl, rfl⟩
            go_wp2_with fail
            go_ret2
            exact ⟨_, by rw [HF.out]; rfl, HB3.out⟩
        · have HF : Hid ((if ldS n g h false true then (0 : Int) else 100) = 100) := if_neg (by unfold ldS; simp)
          subst hp hc
          go_wp2_with fail
          refine (HBT.out _).mono ?_
          rintro e w4 ⟨rfl, rfl⟩
          go_wp2_with fail
          go_ret2
          exact ⟨_, by rw [HF.out]; rfl, HB3.out⟩
      · by_cases hg : g = 0
        · have HF : Hid ((if ldS n g h true c then (0 : Int) else 100) = 100) := if_neg (by unfold ldS; simp [hg])
          subst hp hg
          cases c
          all_goals
            go_wp2_with fail
            refine (HBT.out _).mono ?_
            rintro e w4 ⟨rfl, rfl⟩
            go_wp2_with fail
            go_ret2
            exact ⟨_, by rw [HF.out]; rfl, HB3.out⟩
        · have HF : Hid ((if ldS n g h true c then (0 : Int) else 100) = 0) := if_pos (by have := HL.out; have := HH.out; unfold ldS lineR at *; simp [hg]; omega)
          have e1 : (g != 0) = true := by simp [hg]
          subst hp
          clear hg
          cases c
          all_goals
            go_wp2_with fail
            refine (HBT.out _).mono ?_
            rintro e w4 ⟨rfl, rfl⟩
            go_wp2_with fail
            go_ret2
            exact ⟨_, by rw [HF.out]; rfl, HB3.out.alloc HB3.out.size _⟩
    · have HF : Hid ((if ldS n g h p c then (0 : Int) else 100) = 100) := if_neg (fun h9 => hh h9.2.2.2.1)
      have hhd : decide (0 ≤ h ∧ h ≤ 1099511627776) = false := decide_eq_false hh
      have HBT : Hid (∀ X : World, Calls Try.prog 76 #[.int .i64 h, .int .i64 0, .int .i64 1099511627776] X fun e w' => e = .returned (.bool false) ∧ w' = X) := fun X => by
        have h9 := btw_any h 0 1099511627776 X
        rw [hhd] at h9
        exact h9
      clear hh hhd
      go_wp2_with fail
      refine (HBT.out _).mono ?_
      rintro e w4 ⟨rfl, rfl⟩
      go_wp2_with fail
      go_ret2
      exact ⟨_, by rw [HF.out]; rfl, HB3.out⟩
  · have HF : Hid ((if ldS n g h p c then (0 : Int) else 100) = 100) := if_neg (fun h9 => hl ⟨h9.1, h9.2.1, h9.2.2.1⟩)
    clear hl
    go_wp2_with fail
    go_ret2
    exact ⟨_, by rw [HF.out]; rfl, HB3.out⟩

set_option maxHeartbeats 4000000 in
theorem cright_any (v : Value) (A : Option Addr) (m k : Nat) (d : CD) (w : World) (hv : v = .slice A m k) (hm : d.b.length = m) :
    Calls Try.prog 33 #[.agg (CV.cells ⟨v, d⟩).toArray] w fun e w' => e = .returned (.bool (decide d.right)) ∧ Below w.heap.size w w' := by
  subst hv
  obtain ⟨r, hr⟩ : ∃ r : Bool, r = decide d.right := ⟨_, rfl⟩
  rw [← hr]
  have HR : Hid (r = decide (m ≤ 1048576 ∧ (0 ≤ d.s ∧ d.s ≤ 1048576) ∧ ldS d.n d.g d.h d.p d.c)) := by show _ = _; rw [hr, ← hm]; rfl
  clear hr hm
  obtain ⟨b, s, n, g, h, p, c⟩ := d
  simp only at HR
  unfold CV.cells
  simp only
  have HB : Hid (Below w.heap.size w (w.alloc (.cells #[.slice A m k, .int .i64 s, .int .i64 n, .int .i64 g, .int .i64 h, .bool p, .bool c] cvT))) := (Below.refl _ _).alloc (Nat.le_refl _) _
  have HP : Hid (Blk (w.alloc (.cells #[.slice A m k, .int .i64 s, .int .i64 n, .int .i64 g, .int .i64 h, .bool p, .bool c] cvT)) w.heap.size cvT #[.slice A m k, .int .i64 s, .int .i64 n, .int .i64 g, .int .i64 h, .bool p, .bool c]) := Blk.new w _ _
  go_enter Try.func33, Try.ntmps33
  go_wp2_with fail
  refine (tload_any n g h p c _).mono ?_
  generalize w.alloc (.cells #[.slice A m k, .int .i64 s, .int .i64 n, .int .i64 g, .int .i64 h, .bool p, .bool c] cvT) = w1 at *
  rintro e w2 ⟨u, rfl, hb2⟩
  have HB2 := hide (HB.out.trans (hb2.mono HB.out.size))
  have HP2 := hide (HP.out.below hb2 HP.out.lt)
  clear hb2
  have p0 : w2.cell? ⟨w.heap.size, 0, none⟩ = some (.slice A m k) := HP2.out.cell 0
  have p1 : w2.cell? ⟨w.heap.size, 1, none⟩ = some (.int .i64 s) := HP2.out.cell 1
  have hpl := HP2.out.lt
  have hln : (ldS n g h p c ∧ (if ldS n g h p c then (0 : Int) else 100) = 0) ∨ (¬ ldS n g h p c ∧ (if ldS n g h p c then (0 : Int) else 100) = 100) := by
    by_cases h9 : ldS n g h p c
    · exact .inl ⟨h9, if_pos h9⟩
    · exact .inr ⟨h9, if_neg h9⟩
  generalize (if ldS n g h p c then (0 : Int) else 100) = le at *
  by_cases h1 : m ≤ 1048576
  · by_cases h2 : 0 ≤ s
    · by_cases h3 : s ≤ 1048576
      · rcases hln with ⟨hl, rfl⟩ | ⟨hl, rfl⟩
        · have HF : Hid (r = true) := by show _ = _; rw [HR.out]; exact decide_eq_true ⟨h1, ⟨h2, h3⟩, hl⟩
          clear hl
          go_wp2_with fail
          go_ret
          rw [HF.out]
          exact ⟨rfl, HB2.out⟩
        · have HF : Hid (r = false) := by show _ = _; rw [HR.out]; exact decide_eq_false (fun h => hl h.2.2)
          clear hl
          go_wp2_with fail
          go_ret
          rw [HF.out]
          exact ⟨rfl, HB2.out⟩
      · have HF : Hid (r = false) := by show _ = _; rw [HR.out]; exact decide_eq_false (fun h => h3 h.2.1.2)
        clear hln
        go_wp2_with fail
        go_ret
        rw [HF.out]
        exact ⟨rfl, HB2.out⟩
    · have HF : Hid (r = false) := by show _ = _; rw [HR.out]; exact decide_eq_false (fun h => h2 h.2.1.1)
      clear hln
      go_wp2_with fail
      go_ret
      rw [HF.out]
      exact ⟨rfl, HB2.out⟩
  · have HF : Hid (r = false) := by show _ = _; rw [HR.out]; exact decide_eq_false (fun h => h1 h.1)
    clear hln
    go_wp2_with fail
    go_ret
    rw [HF.out]
    exact ⟨rfl, HB2.out⟩

end Go.Proofs.Ytkobaidamdffmaa
