/- Bytes: as cells, cloned, as a string, equal, compared. / A region that draws its order, reads, and calls what only makes memory: one walk, in the order of the text. / Windows and their order; cmp.Compare, cmp.Or at ints. / window.Check. / Cells: places as keys of a map, cells as values; a table in memory. -/
import Derived.Test.YtkobaidamdffmaaProg
import Derived.Test.YtkobaidamdffmaaQCellsDecodes00
import Derived.Laws.BytesArg
import Derived.Lib.Bytealg
import Derived.BigQuiet
import Derived.Deep.RegionHeld3
import Derived.Sort.Grow
import Derived.Test.YtkobaidamdffmaaQCellsDecodes01
import Derived.WalkSpells
import Derived.WalkLawsBesides

namespace Go.Proofs.Ytkobaidamdffmaa
open Go.RowKit
set_option linter.unusedVariables false
set_option linter.unusedSimpArgs false

abbrev bT : Nat := 5
/-- bytes as cells -/
def bys (D : List Int) : List Value := D.flatMap fun c => [.int .u8 c]
theorem bys_len (D : List Int) : (bys D).length = D.length * 1 := flat_len (fun c : Int => [Value.int .u8 c]) 1 (fun _ => rfl) D
theorem bys_app (C D : List Int) : bys (C ++ D) = bys C ++ bys D := List.flatMap_append ..
theorem bys_ok (D : List Int) : ∀ u ∈ bys D, u.oneCell' = true := by
  intro u hu
  simp only [bys, List.mem_flatMap, List.mem_singleton] at hu
  obtain ⟨c, _, rfl⟩ := hu
  rfl
/-- are they bytes? -/
def Bytes8 (D : List Int) : Prop := ∀ c ∈ D, 0 ≤ c ∧ c ≤ 255
theorem by_at {w : World} {B n c : Nat} {A : Option Addr} {D : List Int} (h : Sl w B (.slice A n c) 1 n (bys D)) {k : Nat} (hk : k < n) (hD : D.length = n) :
    ∃ ad, A = some ad ∧ (ad.add k).block < B ∧ w.cell? (ad.add k) = some (.int .u8 (D[k]'(by omega))) := by
  obtain ⟨ad, rfl, hb, hh⟩ := h.at_ hk
  rw [bys, part_of (fun c : Int => [Value.int .u8 c]) 1 (fun _ => rfl) D k (by omega), Nat.mul_one] at hh
  refine ⟨ad, rfl, by rw [add_blk]; exact hb, ?_⟩
  have := hh 0 _ rfl
  rwa [add_add'] at this
theorem tyB : SlTy Try.prog 23 bT 1 1 (.int .u8 0) := ⟨Try.underlying23, info_parts (by kernel_rfl), rfl, by omega⟩

theorem bys_map : ∀ (D : List Int), bys D = D.map (Value.int .u8)
  | [] => rfl
  | c :: D => by
    have h := bys_map D
    rw [bys] at h
    rw [bys, List.flatMap_cons, h]
    rfl
theorem bys_str (v : Value) (D : List Int) (n B : Nat) (w : World) (hs : Sl w B v 1 n (bys D)) (hD : D.length = n) :
    (convert 23 9 v).run Try.prog w = .ok (.string (strOfNums D)) w := by
  obtain ⟨A, c, rfl, hnc⟩ := hs.form
  have hA : Try.prog.underlying 23 = some (.slice bT) := Try.underlying23
  have hE : Try.prog.underlying bT = some (.int .u8) := by kernel_rfl
  have hS : Try.prog.underlying 9 = some .string := by kernel_rfl
  cases n with
  | zero =>
    have hD0 : D = [] := List.length_eq_zero_iff.1 hD
    subst hD0
    rw [run_convert_bytes_string w _ _ _ _ 0 c hA hE hS]
    cases A with
    | none => simp [Conv.bytesToString]; rfl
    | some ad =>
      rw [run_bytesToString w ad 0 c [] (by simpa using run_loadCells_list (P := Try.prog) w ad [] (by simp))]
      rfl
  | succ m =>
    obtain ⟨ad, rfl, hb, hh⟩ := hs.inv.2.2.2 (by omega)
    rw [run_convert_bytes_string w _ _ _ _ _ c hA hE hS, run_bytesToString w ad (m + 1) c D, foldl_push_bytes]
    · simp [strOfNums, ByteArray.empty, ByteArray.emptyWithCapacity]
      rfl
    · have h := run_loadCells_list (P := Try.prog) w ad (D.map (Value.int .u8)) (fun j v hj => hh j v (by rw [bys_map]; exact hj))
      simpa [hD] using h


set_option maxHeartbeats 2000000 in
theorem bclone_any (v : Value) (D : List Int) (n B : Nat) (w : World) (hs : Sl w B v 1 n (bys D)) (hD : D.length = n) (hn : n ≤ 140737488355328) (hB : B ≤ w.heap.size) :
    Calls Try.prog 36 #[v] w fun e w' => ∃ u, e = .returned u ∧ Own w' w.heap.size bT 1 u n (bys D) ∧ Below w.heap.size w w' := by
  obtain ⟨A, c, rfl, hnc⟩ := hs.form
  have HS := hide hs
  have HD := hide hD
  clear hs hD
  cases A with
  | none =>
    have hn0 : n = 0 := by
      have h := HS.out.inv
      by_cases h9 : 0 < n
      · obtain ⟨ad, h7, _⟩ := h.2.2.2 h9
        cases h7
      · omega
    subst hn0
    have HD0 : Hid (D = []) := List.length_eq_zero_iff.1 HD.out
    have hnil : ∀ W : World, (binOp .eql 23 (.slice none 0 c) (.slice none 0 0)).run Try.prog W = .ok (.bool true) W := fun W => by kernel_rfl
    go_enter Try.func36, Try.ntmps36
    go_wp2_with fail
    go_ret
    exact ⟨_, rfl, by rw [HD0.out]; exact Own.nil _ _ _ _, Below.refl _ _⟩
  | some ad =>
    have hnil : ∀ W : World, (binOp .eql 23 (.slice (some ad) n c) (.slice none 0 0)).run Try.prog W = .ok (.bool false) W := fun W => by kernel_rfl
    go_enter Try.func36, Try.ntmps36
    go_wp2_with (at_builtin; refine wpList_app rfl tyB (.tmp 5) (.tmp 6) rfl w.heap.size (n := 0) (m := n) (B := B) (xs := []) (news := bys D) rfl rfl ?c1 ?c2 (bys_ok D) (by omega) (by omega) (by simp) ?_)
    case c1 => exact Own.new w w.heap.size #[] (Nat.le_refl _) (by omega) rfl
    case c2 => exact HS.out.alloc hB _
    intro v1 w1 ha
    have HO : Hid (Own w1 w.heap.size bT 1 v1 n (bys D)) := by simpa [Hid] using ha.own
    have HB1 := hide (((Below.refl w.heap.size w).alloc (Nat.le_refl _) _).trans (ha.fr.below (by simp) (fun k hk h => by have := own_eq h; omega)))
    clear ha
    go_wp2_with fail
    go_ret
    exact ⟨_, rfl, HO.out, HB1.out⟩

theorem u8map_inj : ∀ (D E : List Int), Bytes8 D → Bytes8 E → D.map (fun n => UInt8.ofNat n.toNat) = E.map (fun n => UInt8.ofNat n.toNat) → D = E
  | [], [], _, _, _ => rfl
  | [], e :: E, _, _, h => by simp at h
  | d :: D, [], _, _, h => by simp at h
  | d :: D, e :: E, h1, h2, h => by
    simp only [List.map_cons, List.cons.injEq] at h
    have hd := h1 d List.mem_cons_self
    have he := h2 e List.mem_cons_self
    have h3 := congrArg UInt8.toNat h.1
    simp only [UInt8.toNat_ofNat'] at h3
    rw [u8map_inj D E (fun c hc => h1 c (List.mem_cons_of_mem _ hc)) (fun c hc => h2 c (List.mem_cons_of_mem _ hc)) h.2]
    congr 1
    omega
theorem str_eq (D E : List Int) (h1 : Bytes8 D) (h2 : Bytes8 E) : ((strOfNums D).toList == (strOfNums E).toList) = decide (D = E) := by
  rw [ByteArray.toList_eq, ByteArray.toList_eq, strOfNums_data, strOfNums_data]
  by_cases h : D = E
  · subst h
    simp
  · rw [decide_eq_false h, beq_eq_false_iff_ne]
    exact fun h9 => h (u8map_inj D E h1 h2 h9)

set_option maxHeartbeats 2000000 in
theorem bequal_any (v u : Value) (D E : List Int) (m n B : Nat) (w : World) (hs : Sl w B v 1 m (bys D)) (hu : Sl w B u 1 n (bys E)) (hD : D.length = m) (hE : E.length = n) (h1 : Bytes8 D) (h2 : Bytes8 E) :
    Calls Try.prog 58 #[v, u] w fun e w' => e = .returned (.bool (decide (D = E))) ∧ w' = w := by
  obtain ⟨A, c, rfl, hc⟩ := hs.form
  obtain ⟨A', c', rfl, hc'⟩ := hu.form
  have k1 := bys_str _ D m B w hs hD
  have k2 := bys_str _ E n B w hu hE
  have HSE := hide (str_eq D E h1 h2)
  clear hs hu h1 h2 hD hE
  go_enter Try.func58, Try.ntmps58
  go_wp2_with fail
  go_ret
  rw [HSE.out]
  exact ⟨rfl, rfl⟩

/-- which bytes are less? -/
def cmpB : List Int → List Int → Int
  | [], [] => 0
  | [], _ :: _ => -1
  | _ :: _, [] => 1
  | a :: A, b :: B => if a < b then -1 else if b < a then 1 else cmpB A B
theorem cmpB_zero : ∀ (A B : List Int), cmpB A B = 0 ↔ A = B
  | [], [] => by simp [cmpB]
  | [], _ :: _ => by simp [cmpB]
  | _ :: _, [] => by simp [cmpB]
  | a :: A, b :: B => by
    unfold cmpB
    have ih := cmpB_zero A B
    split
    · rename_i h; simp; omega
    · split
      · rename_i h1 h2; simp; omega
      · rename_i h1 h2
        have : a = b := by omega
        subst this
        simp [ih]
theorem cmpB_anti : ∀ (A B : List Int), cmpB B A = - cmpB A B
  | [], [] => by simp [cmpB]
  | [], _ :: _ => by simp [cmpB]
  | _ :: _, [] => by simp [cmpB]
  | a :: A, b :: B => by
    unfold cmpB
    have ih := cmpB_anti A B
    split <;> split <;> (try split) <;> first | rfl | omega | exact ih
theorem cmpB_trans : ∀ (A B C : List Int), cmpB A B < 0 → cmpB B C < 0 → cmpB A C < 0
  | [], [], _, h, _ => by simp [cmpB] at h
  | [], _ :: _, [], _, h => by simp [cmpB] at h
  | [], _ :: _, _ :: _, _, _ => by simp [cmpB]
  | _ :: _, [], _, h, _ => by simp [cmpB] at h
  | _ :: _, _ :: _, [], _, h => by simp [cmpB] at h
  | a :: A, b :: B, c :: C, h1, h2 => by
    unfold cmpB at h1 h2 ⊢
    have ih := cmpB_trans A B C
    split at h1
    · split at h2
      · rw [if_pos (by omega)]; omega
      · split at h2
        · omega
        · rw [if_pos (by omega)]; omega
    · split at h1
      · omega
      · split at h2
        · rw [if_pos (by omega)]; omega
        · split at h2
          · omega
          · rw [if_neg (by omega), if_neg (by omega)]
            exact ih h1 h2

end Go.Proofs.Ytkobaidamdffmaa

namespace Go.Proofs.Ytkobaidamdffmaa
open Go.RowKit
set_option linter.unusedVariables false

/-- a world behind w: what w has stands as it was -/
structure Aft (w : World) where
  w' : World
  h : Below w.heap.size w w'
instance (w : World) : Nonempty (Aft w) := ⟨⟨w, Below.refl _ _⟩⟩

section
variable {P : Program} {id : Nat} {Q : Exit → Act → World → Prop} {a : Act} {w : World} {l : List Oper}
theorem wp_region_aft (hm : P.follows .mixedOrders = true) (hB : Region.lexB .any l.toArray = true)
    (h : wpQuiet P l.toArray (fun w' => ∃ p : Aft w, w' = p.w') (fun a' => ∀ w', Below w.heap.size w w' → Q .normal a' w') l a) : (Code.region id l.toArray true).wp P Q a w := by
  have e : (fun a' => ∀ w', (∃ p : Aft w, w' = p.w') → Q .normal a' w') = (fun a' => ∀ w', Below w.heap.size w w' → Q .normal a' w') :=
    funext fun a' => propext ⟨fun h w' hb => h w' ⟨⟨w', hb⟩, rfl⟩, fun h w' ⟨p, hp⟩ => h w' (by rw [hp]; exact p.h)⟩
  refine wp_region_quiet (C := fun w' => ∃ p : Aft w, w' = p.w') hm hB ⟨⟨_, (Below.refl _ _).drewN 1⟩, rfl⟩ ?_
  rw [e]
  simpa using h
theorem calls_aft {f : FuncId} {args : Array Value} {p : Aft w} {v : Value} (h : Calls P f args p.w' fun e w' => e = .returned v ∧ Below p.w'.heap.size p.w' w') :
    Calls P f args p.w' fun e w'' => e = .returned v ∧ ∃ q : Aft w, w'' = q.w' :=
  h.mono fun _ w' ⟨he, hb⟩ => ⟨he, ⟨w', p.h.trans (hb.mono p.h.size)⟩, rfl⟩
theorem calls_aft_same {f : FuncId} {args : Array Value} {p : Aft w} {v : Value} (h : Calls P f args p.w' fun e w' => e = .returned v ∧ w' = p.w') :
    Calls P f args p.w' fun e w'' => e = .returned v ∧ ∃ q : Aft w, w'' = q.w' :=
  h.mono fun _ w' ⟨he, hb⟩ => ⟨he, p, hb⟩
theorem Aft.cell {x : Addr} {v : Value} (h : w.cell? x = some v) (hb : x.block < w.heap.size) (p : Aft w) : p.w'.cell? x = some v := (p.h.cell hb).trans h
theorem Aft.size (p : Aft w) : w.heap.size ≤ p.w'.heap.size := p.h.size
end

end Go.Proofs.Ytkobaidamdffmaa

namespace Go.Proofs.Ytkobaidamdffmaa
open Go.RowKit Go.Sort
set_option linter.unusedVariables false
set_option linter.unusedSimpArgs false

/-- a window -/
structure Win where
  f : Int
  t : Int
deriving DecidableEq
def Win.cells (p : Win) : List Value := [.int .i64 p.f, .int .i64 p.t]
theorem Win.cells2 (p : Win) : p.cells.length = 2 := rfl
def wins (D : List Win) : List Value := D.flatMap Win.cells
theorem wins_app (C D : List Win) : wins (C ++ D) = wins C ++ wins D := List.flatMap_append ..
theorem wins_len (D : List Win) : (wins D).length = D.length * 2 := flat_len _ 2 Win.cells2 D
theorem wins_ok (D : List Win) : ∀ u ∈ wins D, u.oneCell' = true := by
  intro u hu
  simp only [wins, List.mem_flatMap] at hu
  obtain ⟨p, _, hp⟩ := hu
  simp only [Win.cells, List.mem_cons, List.not_mem_nil, or_false] at hp
  rcases hp with rfl | rfl <;> rfl
abbrev wT : Nat := 37
theorem nan7 (w : World) (x : Int) : Calls Try.prog 97 #[.int .i64 x] w fun e w' => e = .returned (.bool false) ∧ w' = w := by
  go_enter Try.func97, Try.ntmps97
  go_wp2_with fail
  go_ret
  exact ⟨rfl, rfl⟩
def cmpI (x y : Int) : Int := if x < y then -1 else if y < x then 1 else 0
theorem cmp7 (x y : Int) (w : World) : Calls Try.prog 86 #[.int .i64 x, .int .i64 y] w fun e w' => e = .returned (.int .i64 (cmpI x y)) ∧ w' = w := by
  have h : (x < y ∧ cmpI x y = -1) ∨ (¬ x < y ∧ y < x ∧ cmpI x y = 1) ∨ (¬ x < y ∧ ¬ y < x ∧ cmpI x y = 0) := by
    unfold cmpI
    by_cases h1 : x < y
    · rw [if_pos h1]; exact .inl ⟨h1, rfl⟩
    · by_cases h2 : y < x
      · rw [if_neg h1, if_pos h2]; exact .inr (.inl ⟨h1, h2, rfl⟩)
      · rw [if_neg h1, if_neg h2]; exact .inr (.inr ⟨h1, h2, rfl⟩)
  rcases h with ⟨h1, e⟩ | ⟨h1, h2, e⟩ | ⟨h1, h2, e⟩
  all_goals
    rw [e]
    clear e
    go_enter Try.func86, Try.ntmps86
    go_wp2_with (go_at_call 97; refine (nan7 _ _).mono ?_; rintro e w' ⟨rfl, rfl⟩)
    go_ret
    exact ⟨rfl, rfl⟩
abbrev nT7 : Nat := 3
def orI (a b : Int) : Int := if a = 0 then b else a
theorem or_any7 (v : Value) (a b : Int) (B : Nat) (w : World) (hs : Sl w B v 1 2 [.int .i64 a, .int .i64 b]) (hB : B ≤ w.heap.size) : Calls Try.prog 85 #[v] w fun e w' => e = .returned (.int .i64 (orI a b)) ∧ w' = w := by
  obtain ⟨A, c, rfl, hc⟩ := hs.form
  obtain ⟨ad, rfl, hb, hh⟩ := hs.at_ (k := 0) (by omega)
  obtain ⟨ad2, he2, hb2, hh2⟩ := hs.at_ (k := 1) (by omega)
  injection he2 with he2
  subst he2
  have g0 := hh 0 (.int .i64 a) rfl
  simp only [add_add', Nat.add_zero] at g0
  have k0 := hh2 0 (.int .i64 b) rfl
  simp only [add_add', Nat.add_zero, Nat.one_mul] at k0
  have hlt : (ad.add (0 * 1)).block < w.heap.size := by rw [add_blk]; omega
  have hlt2 : (ad.add 1).block < w.heap.size := by rw [add_blk]; omega
  obtain ⟨r, hr⟩ : ∃ r, r = orI a b := ⟨_, rfl⟩
  rw [← hr]
  have HR : Hid (r = if a = 0 then b else a) := hr
  clear hs hh hh2 hr
  rw [Nat.zero_mul] at g0 hlt
  have e0 : ad.add 0 = ad := by simp [Addr.add]
  have e1 : ad.add 1 = ⟨ad.block, ad.off + 1, none⟩ := by
    have h9 := add_fld ad 0 1 (by omega)
    rw [e0, Nat.zero_add] at h9
    exact h9
  rw [e0] at g0 hlt
  rw [e1] at k0 hlt2
  clear e0 e1
  go_enter Try.func85, Try.ntmps85
  go_wp2_with fail
  go_loopw [8] (fun i wr => ∃ k : Nat, k ≤ 2 ∧ i = .int .i64 k ∧ (1 ≤ k → a = 0) ∧ (2 ≤ k → b = 0) ∧ wr = w) (fun i _ => 2 - (intOf i).toNat)
  case atStart => exact ⟨0, by omega, rfl, by omega, by omega, rfl⟩
  case round =>
    obtain ⟨k, hk, rfl, h1, h2, rfl⟩ := hrel
    have h3 : k = 0 ∨ k = 1 ∨ k = 2 := by omega
    rcases h3 with rfl | rfl | rfl
    · by_cases ha : a = 0
      · subst ha
        go_wp2_with fail
        go_roundw
        case rel => exact ⟨1, by omega, by simp, by simp, by omega, trivial⟩
        case measure => simp [intOf]
      · have hab : (a != 0) = true := by simp [ha]
        have HRb : Hid (r = a) := by have h9 := HR.out; rw [if_neg ha] at h9; exact h9
        go_wp2_with fail
        go_ret
        rw [HRb.out]
        exact ⟨rfl, rfl⟩
    · have ha : a = 0 := h1 (by omega)
      have HRb : Hid (r = b) := by have h9 := HR.out; rw [if_pos ha] at h9; exact h9
      subst ha
      by_cases hb0 : b = 0
      · subst hb0
        go_wp2_with fail
        go_roundw
        case rel => exact ⟨2, by omega, by simp, by simp, by simp, trivial⟩
        case measure => simp [intOf]
      · have hab : (b != 0) = true := by simp [hb0]
        go_wp2_with fail
        go_ret
        rw [HRb.out]
        exact ⟨rfl, rfl⟩
    · have ha : a = 0 := h1 (by omega)
      have hb0 : b = 0 := h2 (by omega)
      go_wp2_with fail
      go_ret
      rw [HR.out, ha, hb0]
      exact ⟨rfl, rfl⟩

def ordI (x y : Win) : Int := orI (cmpI x.t y.t) (cmpI x.f y.f)

set_option maxHeartbeats 4000000 in
theorem order_any7 (af at_ bf bt : Int) (w : World) : Calls Try.prog 80 #[.agg #[.int .i64 af, .int .i64 at_], .agg #[.int .i64 bf, .int .i64 bt]] w fun e w' => e = .returned (.int .i64 (ordI ⟨af, at_⟩ ⟨bf, bt⟩)) ∧ ∃ q os, w' = grow (w.drewN q) os := by
  obtain ⟨r, hr⟩ : ∃ r, r = ordI ⟨af, at_⟩ ⟨bf, bt⟩ := ⟨_, rfl⟩
  rw [← hr]
  have HR : Hid (r = orI (cmpI at_ bt) (cmpI af bf)) := hr
  clear hr
  go_enter Try.func80, Try.ntmps80
  go_wp2_with fail
  have HF1 : Hid (Blk ((w.alloc (.cells #[.int .i64 af, .int .i64 at_] wT)).alloc (.cells #[.int .i64 bf, .int .i64 bt] wT)) w.heap.size wT #[.int .i64 af, .int .i64 at_]) := (Blk.new w _ _).alloc _
  have HP1 : Hid (Blk ((w.alloc (.cells #[.int .i64 af, .int .i64 at_] wT)).alloc (.cells #[.int .i64 bf, .int .i64 bt] wT)) (w.heap.size + 1) wT #[.int .i64 bf, .int .i64 bt]) := by
    have h9 := Blk.new (w.alloc (.cells #[.int .i64 af, .int .i64 at_] wT)) wT #[.int .i64 bf, .int .i64 bt]
    simpa [Hid] using h9
  have HE1 : Hid (∃ os, (w.alloc (.cells #[.int .i64 af, .int .i64 at_] wT)).alloc (.cells #[.int .i64 bf, .int .i64 bt] wT) = grow w os) := ⟨_, by rw [alloc_eq_grow, alloc_eq_grow, grow_grow]⟩
  generalize (w.alloc (.cells #[.int .i64 af, .int .i64 at_] wT)).alloc (.cells #[.int .i64 bf, .int .i64 bt] wT) = w1 at *
  generalize hpb : w.heap.size + 1 = pb at *
  clear hpb
  have a0 : w1.cell? ⟨w.heap.size, 0, none⟩ = some (.int .i64 af) := HF1.out.cell 0
  have a1 : w1.cell? ⟨w.heap.size, 1, none⟩ = some (.int .i64 at_) := HF1.out.cell 1
  have b0 : w1.cell? ⟨pb, 0, none⟩ = some (.int .i64 bf) := HP1.out.cell 0
  have b1 : w1.cell? ⟨pb, 1, none⟩ = some (.int .i64 bt) := HP1.out.cell 1
  have hl1 := HF1.out.lt
  have hl2 := HP1.out.lt
  go_region_held3 (fun w' : World => w'.cell? ⟨w.heap.size, 0, none⟩ = some (.int .i64 af) ∧ w'.cell? ⟨w.heap.size, 1, none⟩ = some (.int .i64 at_) ∧ w'.cell? ⟨pb, 0, none⟩ = some (.int .i64 bf) ∧ w'.cell? ⟨pb, 1, none⟩ = some (.int .i64 bt)) (first | exact ⟨a0, a1, b0, b1⟩ | exact ⟨(HF1.out.alloc _).cell 0, (HF1.out.alloc _).cell 1, (HP1.out.alloc _).cell 0, (HP1.out.alloc _).cell 1⟩) (first
    | (go_at_call 86; refine (cmp7 _ _ _).mono ?_; rintro e w7 ⟨rfl, rfl⟩)
    | (go_at_call 85; refine (or_any7 _ (cmpI at_ bt) (cmpI af bf) (w1.heap.size + 1) _ (by have h9 := Sl.of_own (Own.new (n := 2) (sz := 1) (e := nT7) (base := 0) w1.drew #[.int .i64 (cmpI at_ bt), .int .i64 (cmpI af bf)] (by omega) (by omega) rfl); simp at h9; exact h9) (by simp)).mono ?_; rintro e w8 ⟨rfl, rfl⟩))
  rw [← HR.out]
  go_wp2_with fail
  go_ret
  obtain ⟨os, hos⟩ := HE1.out
  refine ⟨rfl, 1, os ++ #[.cells #[.int .i64 (cmpI at_ bt), .int .i64 (cmpI af bf)] nT7], ?_⟩
  rw [alloc_eq_grow, hos]
  show grow (grow (w.drewN 1) os) _ = _
  rw [grow_grow]

theorem cmpI_neg (x y : Int) : cmpI x y < 0 ↔ x < y := by
  unfold cmpI
  split
  · simp; omega
  · split
    · simp; omega
    · simp; omega
theorem cmpI_zero (x y : Int) : cmpI x y = 0 ↔ x = y := by
  unfold cmpI
  split
  · simp; omega
  · split
    · simp; omega
    · simp; omega
/-- the order of windows -/
def wlt (x y : Win) : Prop := x.t < y.t ∨ (x.t = y.t ∧ x.f < y.f)
instance (x y : Win) : Decidable (wlt x y) := by unfold wlt; exact inferInstance
theorem ordI_neg (x y : Win) : ordI x y < 0 ↔ wlt x y := by
  unfold ordI orI wlt
  have h1 := cmpI_zero x.t y.t
  have h2 := cmpI_neg x.t y.t
  have h3 := cmpI_neg x.f y.f
  split
  · rename_i h9
    have := h1.1 h9
    constructor
    · intro h; right; exact ⟨this, h3.1 h⟩
    · rintro (h | ⟨_, h⟩)
      · omega
      · exact h3.2 h
  · rename_i h9
    have h8 : ¬ x.t = y.t := fun h => h9 (h1.2 h)
    constructor
    · intro h; left; exact h2.1 h
    · rintro (h | ⟨h, _⟩)
      · exact h2.2 h
      · exact absurd h h8
theorem grow_below {w : World} (q : Nat) (os : Array Obj) : Below w.heap.size w (grow (w.drewN q) os) := by
  refine ⟨rfl, rfl, rfl, ?_, fun k hk => ?_⟩
  · show w.heap.size ≤ (w.heap ++ os).size
    simp
  · show (w.heap ++ os)[k]? = w.heap[k]?
    rw [Array.getElem?_append_left hk]

/-- Less of package window -/
theorem less_any7 (af at_ bf bt : Int) (w : World) : Calls Try.prog 69 #[.agg #[.int .i64 af, .int .i64 at_], .agg #[.int .i64 bf, .int .i64 bt]] w fun e w' => e = .returned (.bool (decide (wlt ⟨af, at_⟩ ⟨bf, bt⟩))) ∧ Below w.heap.size w w' := by
  obtain ⟨r, hr⟩ : ∃ r : Bool, r = decide (wlt ⟨af, at_⟩ ⟨bf, bt⟩) := ⟨_, rfl⟩
  rw [← hr]
  have HR : Hid (r = decide (ordI ⟨af, at_⟩ ⟨bf, bt⟩ < 0)) := by show _ = _; rw [hr]; exact decide_eq_decide.2 (ordI_neg _ _).symm
  clear hr
  go_enter Try.func69, Try.ntmps69
  go_wp2_with fail
  have HB1 : Hid (Below w.heap.size w ((w.alloc (.cells #[.int .i64 af, .int .i64 at_] wT)).alloc (.cells #[.int .i64 bf, .int .i64 bt] wT))) := ((Below.refl w.heap.size w).alloc (Nat.le_refl _) _).alloc (by simp) _
  refine (order_any7 af at_ bf bt _).mono ?_
  rintro e w2 ⟨rfl, q, os, rfl⟩
  have HB2 := hide (HB1.out.trans ((grow_below (w := ((w.alloc (.cells #[.int .i64 af, .int .i64 at_] wT)).alloc (.cells #[.int .i64 bf, .int .i64 bt] wT))) q os).mono HB1.out.size))
  clear HB1
  generalize grow (World.drewN _ q) os = w3 at *
  generalize ordI ⟨af, at_⟩ ⟨bf, bt⟩ = x at *
  go_wp2_with fail
  go_ret
  rw [HR.out]
  exact ⟨rfl, HB2.out⟩

end Go.Proofs.Ytkobaidamdffmaa

namespace Go.Proofs.Ytkobaidamdffmaa
open Go.RowKit Go.Sort
set_option linter.unusedVariables false
set_option linter.unusedSimpArgs false

def Win.good (p : Win) : Prop := -1048576 ≤ p.f ∧ p.f < p.t ∧ p.t ≤ 2097153
instance (p : Win) : Decidable p.good := by unfold Win.good; exact inferInstance
def Win.stamp (p : Win) : Int := if p.t - 1 > 1048576 then 1048576 else p.t - 1

set_option maxHeartbeats 4000000 in
theorem wcheck_any (f t : Int) (w : World) : Calls Try.prog 61 #[.agg #[.int .i64 f, .int .i64 t]] w fun e w' => e = .returned (.int .i64 (if (Win.mk f t).good then 0 else 70)) ∧ Below w.heap.size w w' := by
  obtain ⟨r, hr⟩ : ∃ r : Int, r = if (Win.mk f t).good then 0 else 70 := ⟨_, rfl⟩
  rw [← hr]
  have HR := hide hr
  clear hr
  have hc : f < -1048576 ∨ (¬ f < -1048576 ∧ t ≤ f) ∨ (¬ f < -1048576 ∧ ¬ t ≤ f ∧ 2097153 < t) ∨ (¬ f < -1048576 ∧ ¬ t ≤ f ∧ ¬ 2097153 < t) := by omega
  rcases hc with h1 | ⟨h1, h2⟩ | ⟨h1, h2, h3⟩ | ⟨h1, h2, h3⟩
  all_goals
    go_enter Try.func61, Try.ntmps61
    go_wp2_with fail
    go_ret
    refine ⟨?_, (Below.refl _ _).alloc (Nat.le_refl _) _⟩
    refine congrArg (fun b => Ending.returned (Value.int .i64 b)) (?_ : _ = r)
    rw [HR.out]
    first
      | (rw [if_neg (by unfold Win.good; simp only; omega)])
      | (rw [if_pos (by unfold Win.good; simp only; omega)])

end Go.Proofs.Ytkobaidamdffmaa

namespace Go.Proofs.Ytkobaidamdffmaa
open Go.RowKit Go.Sort
set_option linter.unusedVariables false
set_option linter.unusedSimpArgs false

/-- a right key: its bytes and its window -/
structure PK where
  b : List Int
  f : Int
  t : Int
  ok : Bytes8 b ∧ b.length ≤ 1048576 ∧ (Win.mk f t).good
theorem PK.eq_iff (p q : PK) : p = q ↔ p.b = q.b ∧ p.f = q.f ∧ p.t = q.t := by
  obtain ⟨b, f, t, h⟩ := p
  obtain ⟨b', f', t', h'⟩ := q
  simp
instance : DecidableEq PK := fun p q => decidable_of_iff _ (PK.eq_iff p q).symm
def PK.win (p : PK) : Win := ⟨p.f, p.t⟩
def plV (p : PK) : Value := .agg #[.string (strOfNums p.b), .int .i64 p.f, .int .i64 p.t]
abbrev plT : Nat := 87
theorem strOf_inj {D E : List Int} (h1 : Bytes8 D) (h2 : Bytes8 E) (h : strOfNums D = strOfNums E) : D = E := by
  have h3 := str_eq D E h1 h2
  rw [h] at h3
  simp only [BEq.rfl] at h3
  exact of_decide_eq_true h3.symm
theorem pl_eq (a b : PK) (w : World) : (Op.equal plT (plV a) (plV b)).run Try.prog w = .ok (decide (a = b)) w := by
  show (Op.equalIn 10000 plT _ _).run _ w = _
  unfold plV
  go_simp
  have hi := PK.eq_iff a b
  obtain ⟨s, f, t, h⟩ := a
  obtain ⟨s', f', t', h'⟩ := b
  simp only at hi
  simp only
  have hl : (strOfNums s).toList = (strOfNums s').toList ↔ s = s' := by
    have h9 := str_eq s s' h.1 h'.1
    constructor
    · intro h8
      rw [h8] at h9
      simp only [BEq.rfl] at h9
      exact of_decide_eq_true h9.symm
    · intro h8; rw [h8]
  by_cases h1 : s = s'
  · by_cases h2 : f = f'
    · by_cases h3 : t = t'
      · simp [h1, h2, h3]
      · simp [h1, h2, h3]
    · simp [h1, h2]
  · rw [if_neg (fun h => h1 (hl.1 h))]
    simp [h1]
theorem pl_chk (e : Bool) (a : PK) (w : World) : (Instr.checkKey e 10000 plT (plV a)).run Try.prog w = .ok () w := by
  obtain ⟨s, f, t, x⟩ := a
  unfold plV
  simp only
  generalize strOfNums s = y
  cases e <;> kernel_rfl
theorem pl_bits (a : PK) : Instr.sameBits 10000 (plV a) (plV a) = true := by
  obtain ⟨b, f, t, h⟩ := a
  unfold plV
  simp only
  generalize strOfNums b = s
  have : Instr.sameBits 10000 (.agg #[.string s, .int .i64 f, .int .i64 t]) (.agg #[.string s, .int .i64 f, .int .i64 t]) = ((s == s) && (((IntKind.i64 == IntKind.i64) && (f == f)) && (((IntKind.i64 == IntKind.i64) && (t == t)) && true))) := by kernel_rfl
  rw [this, beq_toListBytes]
  simp
theorem plW : KeyW Try.prog plT plV := ⟨⟨_, Try.underlying87⟩, pl_eq, pl_chk, pl_bits⟩

/-- what a cell says -/
structure CD where
  b : List Int
  s : Int
  n : Int
  g : Int
  h : Int
  p : Bool
  c : Bool
deriving DecidableEq
def ldS (n g h : Int) (p c : Bool) : Prop := (0 ≤ n ∧ n ≤ 1099511627776) ∧ (0 ≤ g ∧ g ≤ 3) ∧ (0 < n ∨ g = 0) ∧ (0 ≤ h ∧ h ≤ 1099511627776) ∧ (p = true ∨ c = false) ∧ (p = decide (g ≠ 0))
instance (n g h : Int) (p c : Bool) : Decidable (ldS n g h p c) := by unfold ldS; exact inferInstance
def CD.right (d : CD) : Prop := d.b.length ≤ 1048576 ∧ (0 ≤ d.s ∧ d.s ≤ 1048576) ∧ ldS d.n d.g d.h d.p d.c
instance (d : CD) : Decidable d.right := by unfold CD.right; exact inferInstance
/-- a cell in memory -/
structure CV where
  v : Value
  d : CD
def CV.cells (c : CV) : List Value := [c.v, .int .i64 c.d.s, .int .i64 c.d.n, .int .i64 c.d.g, .int .i64 c.d.h, .bool c.d.p, .bool c.d.c]
def cvV (c : CV) : Value := .agg c.cells.toArray
abbrev cvT : Nat := 43
abbrev cmT : Nat := 82
abbrev fmT : Nat := 83
theorem cmU : Try.prog.underlying cmT = some (.map plT cvT) := by kernel_rfl
theorem fmU : Try.prog.underlying fmT = some (.map plT 3) := by kernel_rfl
def cvZ : Value := .agg #[.slice none 0 0, .int .i64 0, .int .i64 0, .int .i64 0, .int .i64 0, .bool false, .bool false]
theorem zeroCv (w : World) : (zeroValue cvT).run Try.prog w = .ok cvZ w := by kernel_rfl
theorem zeroInt (w : World) : (zeroValue 3).run Try.prog w = .ok (.int .i64 0) w := by kernel_rfl
def intV (n : Int) : Value := .int .i64 n
/-- a cell that the table keeps -/
def AccO (w : World) (base : Nat) (c : CV) : Prop := Own w base bT 1 c.v c.d.b.length (bys c.d.b) ∧ Bytes8 c.d.b ∧ c.d.right
theorem AccO.fr {S : Nat → Prop} {w w' : World} {base : Nat} {c : CV} (h : AccO w base c) (hf : Fr S w w') (hs : ∀ g cs, Blk w g bT cs → ¬ S g) : AccO w' base c :=
  ⟨h.1.fr hf (fun g hg => by obtain ⟨cs, hc⟩ := h.1.typed g hg; exact hs g cs hc), h.2⟩
theorem AccO.below {w w' : World} {base : Nat} {c : CV} (h : AccO w base c) (hb : Below w.heap.size w w') : AccO w' base c := ⟨h.1.below hb, h.2⟩
theorem AccO.lower {w : World} {a b : Nat} {c : CV} (h : AccO w b c) (hb : a ≤ b) : AccO w a c := ⟨h.1.lower hb, h.2⟩

abbrev tabT : Nat := 85
/-- what stands while something is begun -/
structure BegS (w : World) (base cb wb fb : Nat) (W : List (PK × CV)) (F : List (PK × Int)) : Prop where
  wm : MapR w wb plV cvV W
  fm : MapR w fb plV intV F
  acc : ∀ p ∈ W, AccO w base p.2
  one : ∀ p ∈ F, p.2 = 1
  bs : base ≤ wb ∧ base ≤ fb
  ne : cb ≠ wb ∧ cb ≠ fb ∧ wb ≠ fb
/-- a table in memory: its cells L; whether something is begun, and then what was (W) and what is fresh (F) -/
structure TabS (w : World) (base tb cb : Nat) (wm fm : Option Nat) (bg : Bool) (L W : List (PK × CV)) (F : List (PK × Int)) : Prop where
  blk : Blk w tb tabT #[.map (some cb), .map wm, .map fm, .bool bg]
  map : MapR w cb plV cvV L
  acc : ∀ p ∈ L, AccO w base p.2
  bs : base ≤ tb ∧ base ≤ cb
  beg : bg = true → ∃ wb fb, wm = some wb ∧ fm = some fb ∧ BegS w base cb wb fb W F
/-- the blocks that a table's calls write -/
def TBk (tb cb : Nat) (wm fm : Option Nat) (bg : Bool) : Nat → Prop := fun j => j = tb ∨ j = cb ∨ (bg = true ∧ (wm = some j ∨ fm = some j))
section
variable {w w' : World} {base tb cb : Nat} {wm fm : Option Nat} {bg : Bool} {L W : List (PK × CV)} {F : List (PK × Int)}
theorem BegS.fr {S : Nat → Prop} {wb fb : Nat} (h : BegS w base cb wb fb W F) (hf : Fr S w w') (h1 : ¬ S wb) (h2 : ¬ S fb) (hs : ∀ g cs, Blk w g bT cs → ¬ S g) : BegS w' base cb wb fb W F :=
  ⟨h.wm.fr hf h1, h.fm.fr hf h2, fun p hp => (h.acc p hp).fr hf hs, h.one, h.bs, h.ne⟩
theorem TabS.below (h : TabS w base tb cb wm fm bg L W F) (hb : Below w.heap.size w w') : TabS w' base tb cb wm fm bg L W F :=
  ⟨h.blk.below hb h.blk.lt, h.map.below hb h.map.lt, fun p hp => (h.acc p hp).below hb, h.bs, fun e => by
    obtain ⟨wb, fb, h1, h2, h3⟩ := h.beg e
    exact ⟨wb, fb, h1, h2, h3.wm.below hb h3.wm.lt, h3.fm.below hb h3.fm.lt, fun p hp => (h3.acc p hp).below hb, h3.one, h3.bs, h3.ne⟩⟩
/-- the blocks that are written are no bytes, and of the table's own -/
theorem TabS.lows (h : TabS w base tb cb wm fm bg L W F) : ∀ j, TBk tb cb wm fm bg j → base ≤ j ∧ j < w.heap.size := by
  rintro j (h1 | h1 | ⟨h0, h1⟩)
  · rw [h1]; exact ⟨h.bs.1, h.blk.lt⟩
  · rw [h1]; exact ⟨h.bs.2, h.map.lt⟩
  · obtain ⟨wb, fb, e1, e2, h3⟩ := h.beg h0
    rcases h1 with h1 | h1
    · rw [e1] at h1; injection h1 with h1; rw [← h1]; exact ⟨h3.bs.1, h3.wm.lt⟩
    · rw [e2] at h1; injection h1 with h1; rw [← h1]; exact ⟨h3.bs.2, h3.fm.lt⟩
theorem TabS.nblk (h : TabS w base tb cb wm fm bg L W F) {g t : Nat} {cs : Array Value} (hb : Blk w g t cs) (ht : t ≠ tabT) : ¬ TBk tb cb wm fm bg g := by
  rintro (h1 | h1 | ⟨h0, h1⟩)
  · rw [h1] at hb; exact (hb.apart h.blk ht) rfl
  · rw [h1] at hb; exact h.map.ne_blk hb rfl
  · obtain ⟨wb, fb, e1, e2, h3⟩ := h.beg h0
    rcases h1 with h1 | h1
    · rw [e1] at h1; injection h1 with h1; rw [← h1] at hb; exact h3.wm.ne_blk hb rfl
    · rw [e2] at h1; injection h1 with h1; rw [← h1] at hb; exact h3.fm.ne_blk hb rfl
/-- other blocks are written -/
theorem TabS.fr {S : Nat → Prop} (h : TabS w base tb cb wm fm bg L W F) (hf : Fr S w w') (hs : ∀ j, TBk tb cb wm fm bg j → ¬ S j) (hb : ∀ g cs, Blk w g bT cs → ¬ S g) : TabS w' base tb cb wm fm bg L W F :=
  ⟨hf.blk h.blk (hs _ (.inl rfl)), h.map.fr hf (hs _ (.inr (.inl rfl))), fun p hp => (h.acc p hp).fr hf hb, h.bs, fun e => by
    obtain ⟨wb, fb, h1, h2, h3⟩ := h.beg e
    exact ⟨wb, fb, h1, h2, h3.fr hf (hs _ (.inr (.inr ⟨e, .inl h1⟩))) (hs _ (.inr (.inr ⟨e, .inr h2⟩))) hb⟩⟩
/-- the cells' map is another -/
theorem TabS.recell (h : TabS w base tb cb wm fm bg L W F) {L' : List (PK × CV)} (hf : Fr (fun j => j = cb) w w') (hm : MapR w' cb plV cvV L') (ha : ∀ p ∈ L', AccO w base p.2) : TabS w' base tb cb wm fm bg L' W F := by
  have hb : ∀ g cs, Blk w g bT cs → ¬ (g = cb) := fun g cs hc e => h.map.ne_blk hc e.symm
  refine ⟨hf.blk h.blk (fun e => h.map.ne_blk h.blk e.symm), hm, fun p hp => (ha p hp).fr hf hb, h.bs, fun e => ?_⟩
  obtain ⟨wb, fb, h1, h2, h3⟩ := h.beg e
  exact ⟨wb, fb, h1, h2, h3.fr hf (fun e => h3.ne.1 e.symm) (fun e => h3.ne.2.1 e.symm) hb⟩
theorem TabS.open (h : TabS w base tb cb wm fm bg L W F) : w.cell? ⟨tb, 0, none⟩ = some (.map (some cb)) ∧ w.cell? ⟨tb, 1, none⟩ = some (.map wm) ∧ w.cell? ⟨tb, 2, none⟩ = some (.map fm) ∧ w.cell? ⟨tb, 3, none⟩ = some (.bool bg) ∧ tb < w.heap.size :=
  ⟨h.blk.cell 0, h.blk.cell 1, h.blk.cell 2, h.blk.cell 3, h.blk.lt⟩
theorem TabS.look (h : TabS w base tb cb wm fm bg L W F) (a : PK) (ok : Bool) : (Instr.lookup cmT (.map (some cb)) (plV a) ok).run Try.prog w = .ok (if ok then .tuple #[((lk L a).map cvV).getD cvZ, .bool (lk L a).isSome] else ((lk L a).map cvV).getD cvZ) w :=
  h.map.look plW cmU zeroCv a ok
end
theorem lk_mem {α β : Type} [DecidableEq α] {L : List (α × β)} {a : α} {c : β} (h : lk L a = some c) : (a, c) ∈ L := by
  induction L with
  | nil => cases h
  | cons p L ih =>
    obtain ⟨b, u⟩ := p
    unfold lk at h
    split at h
    · rename_i e
      subst e
      injection h with h
      subst h
      exact List.mem_cons_self
    · exact List.mem_cons_of_mem _ (ih h)
theorem mem_put {α β : Type} [DecidableEq α] {L : List (α × β)} {a : α} {c : β} {p : α × β} (h : p ∈ putM L a c) : p ∈ L ∨ p = (a, c) := by
  induction L with
  | nil => exact .inr (by simpa [putM] using h)
  | cons q L ih =>
    obtain ⟨b, u⟩ := q
    unfold putM at h
    split at h
    · rename_i e
      rcases List.mem_cons.1 h with h | h
      · exact .inr h
      · exact .inl (List.mem_cons_of_mem _ h)
    · rcases List.mem_cons.1 h with h | h
      · exact .inl (by rw [h]; exact List.mem_cons_self)
      · exact (ih h).imp (List.mem_cons_of_mem _) id
theorem mem_del {α β : Type} [DecidableEq α] {L : List (α × β)} {a : α} {p : α × β} (h : p ∈ delM L a) : p ∈ L := by
  induction L with
  | nil => cases h
  | cons q L ih =>
    obtain ⟨b, u⟩ := q
    unfold delM at h
    split at h
    · exact List.mem_cons_of_mem _ h
    · rcases List.mem_cons.1 h with h | h
      · rw [h]; exact List.mem_cons_self
      · exact List.mem_cons_of_mem _ (ih h)

end Go.Proofs.Ytkobaidamdffmaa
