/- bytes.Compare. -/
import Derived.Test.YtogelnljkdcajaaByt
import Derived.Lib.BytesEntry
import Derived.Laws.Externs
namespace Go.Proofs.Ytogelnljkdcajaa
open Go.RowKit
set_option linter.unusedVariables false
set_option linter.unusedSimpArgs false

theorem compare_eq : ∀ (D E : List Int), Bytes8 D → Bytes8 E → Lib.compareBytes (Lib.bytesOf D) (Lib.bytesOf E) = cmpB D E
  | [], [], _, _ => rfl
  | [], _ :: _, _, _ => rfl
  | _ :: _, [], _, _ => rfl
  | d :: D, e :: E, h1, h2 => by
    have hd := h1 d List.mem_cons_self
    have he := h2 e List.mem_cons_self
    have ih := compare_eq D E (fun c hc => h1 c (List.mem_cons_of_mem _ hc)) (fun c hc => h2 c (List.mem_cons_of_mem _ hc))
    have e1 : Lib.bytesOf (d :: D) = d.toNat.toUInt8 :: Lib.bytesOf D := rfl
    have e2 : Lib.bytesOf (e :: E) = e.toNat.toUInt8 :: Lib.bytesOf E := rfl
    rw [e1, e2, Lib.compareBytes, cmpB, ih]
    have l1 : (d.toNat.toUInt8 < e.toNat.toUInt8) ↔ d < e := by
      rw [UInt8.lt_iff_toNat_lt]
      simp
      omega
    have l2 : (e.toNat.toUInt8 < d.toNat.toUInt8) ↔ e < d := by
      rw [UInt8.lt_iff_toNat_lt]
      simp
      omega
    simp only [l1, l2]
theorem sl_bytes (v : Value) (D : List Int) (n B : Nat) (w : World) (hs : Sl w B v 1 n (bys D)) (hD : D.length = n) : (Extern.Bytes.bytesOf v).run Try.prog w = .ok ⟨(Lib.bytesOf D).toArray⟩ w := by
  obtain ⟨A, c, rfl, hnc⟩ := hs.form
  subst hD
  cases A with
  | none =>
    have hn0 : D = [] := by
      rcases Nat.eq_zero_or_pos D.length with h | h
      · exact List.eq_nil_of_length_eq_zero h
      · obtain ⟨_, _, _, h5⟩ := hs.inv
        obtain ⟨ad, had, _⟩ := h5 h
        cases had
    subst hn0
    rfl
  | some ad =>
    have h := Lib.run_loadBytesX (P := Try.prog) w D ad .empty (fun j x hx => by
      have hj := (List.getElem?_eq_some_iff.1 hx)
      obtain ⟨ad2, he, _, hc⟩ := by_at hs hj.1 rfl
      injection he with he
      subst he
      rw [hc, ← hj.2])
    show (Extern.Bytes.loadBytes ad D.length .empty).run _ w = _
    rw [h]
    simp
theorem bcompare_any (v u : Value) (D E : List Int) (m n B C : Nat) (w : World) (hs : Sl w B v 1 m (bys D)) (hu : Sl w C u 1 n (bys E)) (hD : D.length = m) (hE : E.length = n) (h1 : Bytes8 D) (h2 : Bytes8 E) :
    Calls Try.prog 53 #[v, u] w fun e w' => e = .returned (.int .i64 (cmpB D E)) ∧ w' = w := by
  have hx : (Extern.BytealgCompare.compare #[v, u]).run Try.prog w = .ok (.int .i64 (cmpB D E)) w := by
    change Sem.run _ (do pure (goInt (Extern.BytealgCompare.cmp (← Extern.Bytes.bytesOf v) (← Extern.Bytes.bytesOf u)))) w = _
    simp only [Sem.run_bind, sl_bytes v D m B w hs hD, sl_bytes u E n C w hu hE, Sem.run_pure, Result.andThen]
    rw [Lib.cmp_eq]
    show Result.ok (goInt (Lib.compareBytes (Lib.bytesOf D) (Lib.bytesOf E))) w = _
    rw [compare_eq D E h1 h2]
    rfl
  have hcall : (callFunc 67 #[v, u]).run Try.prog w = .ok (.value (.int .i64 (cmpB D E))) w := by
    rw [run_callFunc_extern Try.func67 (by kernel_rfl) (by kernel_rfl) (by kernel_rfl) (e := Extern.BytealgCompare.compare) (by kernel_rfl), hx]
    rfl
  obtain ⟨A, c, rfl, hc⟩ := hs.form
  obtain ⟨A', c', rfl, hc'⟩ := hu.form
  clear hs hu hD hE hx
  go_enter Try.func53, Try.ntmps53
  go_wp2_with fail
  go_ret
  exact ⟨rfl, rfl⟩

end Go.Proofs.Ytogelnljkdcajaa
