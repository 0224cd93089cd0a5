/- Bytes: as cells, cloned, as a string, equal, compared. -/
import Derived.Test.YtkobaidamdffmaaProg
import Derived.Test.YtkobaidamdffmaaApp
import Derived.Test.YtkobaidamdffmaaCut
import Derived.Laws.BytesArg
import Derived.Lib.Bytealg
import Derived.BigQuiet
namespace Go.Proofs.Ytkobaidamdffmaa
open Go.RowKit
set_option linter.unusedVariables false
set_option linter.unusedSimpArgs false

abbrev bT : Nat := 5
/-- bytes as cells -/
def bys (D : List Int) : List Value := D.flatMap fun c => [.int .u8 c]
theorem bys_len (D : List Int) : (bys D).length = D.length * 1 := flat_len (fun c : Int => [Value.int .u8 c]) 1 (fun _ => rfl) D
theorem bys_app (C D : List Int) : bys (C ++ D) = bys C ++ bys D := List.flatMap_append ..
theorem bys_ok (D : List Int) : ∀ u ∈ bys D, u.oneCell' = true := by
  intro u hu
  simp only [bys, List.mem_flatMap, List.mem_singleton] at hu
  obtain ⟨c, _, rfl⟩ := hu
  rfl
/-- are they bytes? -/
def Bytes8 (D : List Int) : Prop := ∀ c ∈ D, 0 ≤ c ∧ c ≤ 255
theorem by_at {w : World} {B n c : Nat} {A : Option Addr} {D : List Int} (h : Sl w B (.slice A n c) 1 n (bys D)) {k : Nat} (hk : k < n) (hD : D.length = n) :
    ∃ ad, A = some ad ∧ (ad.add k).block < B ∧ w.cell? (ad.add k) = some (.int .u8 (D[k]'(by omega))) := by
  obtain ⟨ad, rfl, hb, hh⟩ := h.at_ hk
  rw [bys, part_of (fun c : Int => [Value.int .u8 c]) 1 (fun _ => rfl) D k (by omega), Nat.mul_one] at hh
  refine ⟨ad, rfl, by rw [add_blk]; exact hb, ?_⟩
  have := hh 0 _ rfl
  rwa [add_add'] at this
theorem tyB : SlTy Try.prog 23 bT 1 1 (.int .u8 0) := ⟨Try.underlying23, info_parts (by kernel_rfl), rfl, by omega⟩

theorem bys_map : ∀ (D : List Int), bys D = D.map (Value.int .u8)
  | [] => rfl
  | c :: D => by
    have h := bys_map D
    rw [bys] at h
    rw [bys, List.flatMap_cons, h]
    rfl
theorem bys_str (v : Value) (D : List Int) (n B : Nat) (w : World) (hs : Sl w B v 1 n (bys D)) (hD : D.length = n) :
    (convert 23 9 v).run Try.prog w = .ok (.string (strOfNums D)) w := by
  obtain ⟨A, c, rfl, hnc⟩ := hs.form
  have hA : Try.prog.underlying 23 = some (.slice bT) := Try.underlying23
  have hE : Try.prog.underlying bT = some (.int .u8) := by kernel_rfl
  have hS : Try.prog.underlying 9 = some .string := by kernel_rfl
  cases n with
  | zero =>
    have hD0 : D = [] := List.length_eq_zero_iff.1 hD
    subst hD0
    rw [run_convert_bytes_string w _ _ _ _ 0 c hA hE hS]
    cases A with
    | none => simp [Conv.bytesToString]; rfl
    | some ad =>
      rw [run_bytesToString w ad 0 c [] (by simpa using run_loadCells_list (P := Try.prog) w ad [] (by simp))]
      rfl
  | succ m =>
    obtain ⟨ad, rfl, hb, hh⟩ := hs.inv.2.2.2 (by omega)
    rw [run_convert_bytes_string w _ _ _ _ _ c hA hE hS, run_bytesToString w ad (m + 1) c D, foldl_push_bytes]
    · simp [strOfNums, ByteArray.empty, ByteArray.emptyWithCapacity]
      rfl
    · have h := run_loadCells_list (P := Try.prog) w ad (D.map (Value.int .u8)) (fun j v hj => hh j v (by rw [bys_map]; exact hj))
      simpa [hD] using h


set_option maxHeartbeats 2000000 in
theorem bclone_any (v : Value) (D : List Int) (n B : Nat) (w : World) (hs : Sl w B v 1 n (bys D)) (hD : D.length = n) (hn : n ≤ 140737488355328) (hB : B ≤ w.heap.size) :
    Calls Try.prog 36 #[v] w fun e w' => ∃ u, e = .returned u ∧ Own w' w.heap.size bT 1 u n (bys D) ∧ Below w.heap.size w w' := by
  obtain ⟨A, c, rfl, hnc⟩ := hs.form
  have HS := hide hs
  have HD := hide hD
  clear hs hD
  cases A with
  | none =>
    have hn0 : n = 0 := by
      have h := HS.out.inv
      by_cases h9 : 0 < n
      · obtain ⟨ad, h7, _⟩ := h.2.2.2 h9
        cases h7
      · omega
    subst hn0
    have HD0 : Hid (D = []) := List.length_eq_zero_iff.1 HD.out
    have hnil : ∀ W : World, (binOp .eql 23 (.slice none 0 c) (.slice none 0 0)).run Try.prog W = .ok (.bool true) W := fun W => by kernel_rfl
    go_enter Try.func36, Try.ntmps36
    go_wp2_with fail
    go_ret
    exact ⟨_, rfl, by rw [HD0.out]; exact Own.nil _ _ _ _, Below.refl _ _⟩
  | some ad =>
    have hnil : ∀ W : World, (binOp .eql 23 (.slice (some ad) n c) (.slice none 0 0)).run Try.prog W = .ok (.bool false) W := fun W => by kernel_rfl
    go_enter Try.func36, Try.ntmps36
    go_wp2_with (at_builtin; refine wpList_app rfl tyB (.tmp 5) (.tmp 6) rfl w.heap.size (n := 0) (m := n) (B := B) (xs := []) (news := bys D) rfl rfl ?c1 ?c2 (bys_ok D) (by omega) (by omega) (by simp) ?_)
    case c1 => exact Own.new w w.heap.size #[] (Nat.le_refl _) (by omega) rfl
    case c2 => exact HS.out.alloc hB _
    intro v1 w1 ha
    have HO : Hid (Own w1 w.heap.size bT 1 v1 n (bys D)) := by simpa [Hid] using ha.own
    have HB1 := hide (((Below.refl w.heap.size w).alloc (Nat.le_refl _) _).trans (ha.fr.below (by simp) (fun k hk h => by have := own_eq h; omega)))
    clear ha
    go_wp2_with fail
    go_ret
    exact ⟨_, rfl, HO.out, HB1.out⟩

theorem u8map_inj : ∀ (D E : List Int), Bytes8 D → Bytes8 E → D.map (fun n => UInt8.ofNat n.toNat) = E.map (fun n => UInt8.ofNat n.toNat) → D = E
  | [], [], _, _, _ => rfl
  | [], e :: E, _, _, h => by simp at h
  | d :: D, [], _, _, h => by simp at h
  | d :: D, e :: E, h1, h2, h => by
    simp only [List.map_cons, List.cons.injEq] at h
    have hd := h1 d List.mem_cons_self
    have he := h2 e List.mem_cons_self
    have h3 := congrArg UInt8.toNat h.1
    simp only [UInt8.toNat_ofNat'] at h3
    rw [u8map_inj D E (fun c hc => h1 c (List.mem_cons_of_mem _ hc)) (fun c hc => h2 c (List.mem_cons_of_mem _ hc)) h.2]
    congr 1
    omega
theorem str_eq (D E : List Int) (h1 : Bytes8 D) (h2 : Bytes8 E) : ((strOfNums D).toList == (strOfNums E).toList) = decide (D = E) := by
  rw [ByteArray.toList_eq, ByteArray.toList_eq, strOfNums_data, strOfNums_data]
  by_cases h : D = E
  · subst h
    simp
  · rw [decide_eq_false h, beq_eq_false_iff_ne]
    exact fun h9 => h (u8map_inj D E h1 h2 h9)

set_option maxHeartbeats 2000000 in
theorem bequal_any (v u : Value) (D E : List Int) (m n B : Nat) (w : World) (hs : Sl w B v 1 m (bys D)) (hu : Sl w B u 1 n (bys E)) (hD : D.length = m) (hE : E.length = n) (h1 : Bytes8 D) (h2 : Bytes8 E) :
    Calls Try.prog 58 #[v, u] w fun e w' => e = .returned (.bool (decide (D = E))) ∧ w' = w := by
  obtain ⟨A, c, rfl, hc⟩ := hs.form
  obtain ⟨A', c', rfl, hc'⟩ := hu.form
  have k1 := bys_str _ D m B w hs hD
  have k2 := bys_str _ E n B w hu hE
  have HSE := hide (str_eq D E h1 h2)
  clear hs hu h1 h2 hD hE
  go_enter Try.func58, Try.ntmps58
  go_wp2_with fail
  go_ret
  rw [HSE.out]
  exact ⟨rfl, rfl⟩

/-- which bytes are less? -/
def cmpB : List Int → List Int → Int
  | [], [] => 0
  | [], _ :: _ => -1
  | _ :: _, [] => 1
  | a :: A, b :: B => if a < b then -1 else if b < a then 1 else cmpB A B
theorem cmpB_zero : ∀ (A B : List Int), cmpB A B = 0 ↔ A = B
  | [], [] => by simp [cmpB]
  | [], _ :: _ => by simp [cmpB]
  | _ :: _, [] => by simp [cmpB]
  | a :: A, b :: B => by
    unfold cmpB
    have ih := cmpB_zero A B
    split
    · rename_i h; simp; omega
    · split
      · rename_i h1 h2; simp; omega
      · rename_i h1 h2
        have : a = b := by omega
        subst this
        simp [ih]
theorem cmpB_anti : ∀ (A B : List Int), cmpB B A = - cmpB A B
  | [], [] => by simp [cmpB]
  | [], _ :: _ => by simp [cmpB]
  | _ :: _, [] => by simp [cmpB]
  | a :: A, b :: B => by
    unfold cmpB
    have ih := cmpB_anti A B
    split <;> split <;> (try split) <;> first | rfl | omega | exact ih
theorem cmpB_trans : ∀ (A B C : List Int), cmpB A B < 0 → cmpB B C < 0 → cmpB A C < 0
  | [], [], _, h, _ => by simp [cmpB] at h
  | [], _ :: _, [], _, h => by simp [cmpB] at h
  | [], _ :: _, _ :: _, _, _ => by simp [cmpB]
  | _ :: _, [], _, h, _ => by simp [cmpB] at h
  | _ :: _, _ :: _, [], _, h => by simp [cmpB] at h
  | a :: A, b :: B, c :: C, h1, h2 => by
    unfold cmpB at h1 h2 ⊢
    have ih := cmpB_trans A B C
    split at h1
    · split at h2
      · rw [if_pos (by omega)]; omega
      · split at h2
        · omega
        · rw [if_pos (by omega)]; omega
    · split at h1
      · omega
      · split at h2
        · rw [if_pos (by omega)]; omega
        · split at h2
          · omega
          · rw [if_neg (by omega), if_neg (by omega)]
            exact ih h1 h2

end Go.Proofs.Ytkobaidamdffmaa
