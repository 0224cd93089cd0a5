/- The laws of layer 15: calls, as a law makes them. -/
import Derived.Test.YtkobaidamdffmaaAw15
namespace Go.Proofs.Ytkobaidamdffmaa
open Go.RowKit Go.Sort
set_option linter.unusedVariables false
set_option linter.unusedSimpArgs false

theorem Own.slB {w : World} {base e sz n B : Nat} {v : Value} {xs : List Value} (h : Own w base e sz v n xs) (hB : ∀ g, v.ownBlock = some g → g < B) : Sl w B v sz n xs := by
  refine ⟨h.1, ?_⟩
  rcases h.2 with ⟨rfl, rfl⟩ | ⟨g, cap, cur, rfl, hb, hg, hc, hm, _⟩
  · exact ⟨none, 0, rfl, by omega, by omega, by omega⟩
  · exact ⟨_, cap, rfl, hc, by unfold maxLen at hm; omega, fun _ => ⟨_, rfl, hB g rfl, fun j u hu => h.cells (g := g) rfl j u hu⟩⟩
/-- a table that the law made -/
structure TabG (w0 wx : World) (tb cb : Nat) (wm fm : Option Nat) (bg : Bool) (L W : List (PK × CV)) (F : List (PK × Int)) : Prop where
  ts : TabS wx w0.heap.size tb cb wm fm bg L W F
  bl : Below w0.heap.size w0 wx
/-- blocks of other types than the table's stand -/
def Kt (w w' : World) : Prop := (∀ (g t : Nat) (cs : Array Value) (fr : Nat × Nat), t ≠ tabT → w.heap[g]? = some (.cells cs t fr) → w'.heap[g]? = some (.cells cs t fr)) ∧ w.heap.size ≤ w'.heap.size
theorem Kt.refl (w : World) : Kt w w := ⟨fun _ _ _ _ _ h => h, Nat.le_refl _⟩
theorem Kt.trans {w w1 w2 : World} (h : Kt w w1) (k : Kt w1 w2) : Kt w w2 := ⟨fun g t cs fr h1 hb => k.1 g t cs fr h1 (h.1 g t cs fr h1 hb), Nat.le_trans h.2 k.2⟩
theorem Kt.below {w w' : World} (h : Below w.heap.size w w') : Kt w w' := ⟨fun g t cs fr _ hb => ((Fr.of_below (S := nob) h).block g (Array.getElem?_eq_some_iff.1 hb).1 id).trans hb, h.size⟩
theorem Kt.blk {w w' : World} (h : Kt w w') {g t : Nat} {cs : Array Value} (hb : Blk w g t cs) (ht : t ≠ tabT) : Blk w' g t cs := h.1 g t cs _ ht hb
theorem Kt.own {w w' : World} (h : Kt w w') {base e sz n : Nat} {v : Value} {xs : List Value} (ho : Own w base e sz v n xs) (he : e ≠ tabT) : Own w' base e sz v n xs := by
  refine ho.to fun g hg => ?_
  obtain ⟨cs, hc⟩ := ho.typed g hg
  have h2 := h.1 g e cs _ he hc
  unfold Blk at hc
  rw [hc, h2]
theorem Kt.ro {w w' : World} (h : Kt w w') {base : Nat} {v : Value} {D : List Int} (ho : RoB w base v D) : RoB w' base v D := by
  obtain ⟨A, c, h1, h2, h3, h4⟩ := ho
  refine ⟨A, c, h1, h2, h3, fun hn => ?_⟩
  obtain ⟨g, cs, fr, h5, h6, h7, h8⟩ := h4 hn
  exact ⟨g, cs, fr, h5, h6, h.1 g bT cs fr (by decide) h7, h8⟩
/-- other blocks than the table's, of whatever mark -/
theorem TabS.nany {w : World} {base tb cb : Nat} {wm fm : Option Nat} {bg : Bool} {L W : List (PK × CV)} {F : List (PK × Int)} (h : TabS w base tb cb wm fm bg L W F) : ∀ (g t : Nat) (cs : Array Value) (fr : Nat × Nat), t ≠ tabT → w.heap[g]? = some (.cells cs t fr) → ¬ TBk tb cb wm fm bg g := by
  rintro g t cs fr ht hg (h1 | h1 | ⟨h0, h1⟩)
  · have hb := h.blk
    unfold Blk at hb
    rw [← h1, hg] at hb
    injection hb with hb
    injection hb with _ hb
    exact ht hb
  · obtain ⟨es, clock, hb, _⟩ := h.map
    rw [← h1, hg] at hb
    cases hb
  · obtain ⟨wb, fb, e1, e2, h3⟩ := h.beg h0
    rcases h1 with h1 | h1
    · rw [e1] at h1
      injection h1 with h1
      obtain ⟨es, clock, hb, _⟩ := h3.wm
      rw [h1, hg] at hb
      cases hb
    · rw [e2] at h1
      injection h1 with h1
      obtain ⟨es, clock, hb, _⟩ := h3.fm
      rw [h1, hg] at hb
      cases hb
section
variable {w0 w wx wy : World} {tb cb : Nat} {wm fm : Option Nat} {bg : Bool} {L W : List (PK × CV)} {F : List (PK × Int)}
theorem TabG.below (h : TabG w0 wx tb cb wm fm bg L W F) (b : Below wx.heap.size wx wy) : TabG w0 wy tb cb wm fm bg L W F := ⟨h.ts.below b, h.bl.trans (b.mono h.bl.size)⟩
theorem TabS.kt {base : Nat} (h : TabS wx base tb cb wm fm bg L W F) (hf : Fr (TBk tb cb wm fm bg) wx wy) : Kt wx wy := ⟨fun g t cs fr ht hb => (hf.block g (Array.getElem?_eq_some_iff.1 hb).1 (h.nany g t cs fr ht hb)).trans hb, hf.size⟩
theorem TabG.after (h : TabG w0 wx tb cb wm fm bg L W F) (hf : Fr (TBk tb cb wm fm bg) wx wy) : Below w0.heap.size w0 wy :=
  h.bl.trans (hf.below h.bl.size (fun k hk h9 => by have := (h.ts.lows k h9).1; omega))
end

theorem lkey_q (A : Option Addr) (n cc : Nat) (f t : Int) (a : Value) (s i g h : Int) (p c : Bool) (D : List Int) (B : Nat) (W X : World) (hs : Sl W B (.slice A n cc) 1 n (bys D)) (hD : D.length = n) (hn : n ≤ 140737488355328) (hB : B ≤ W.heap.size) (hX : Below W.heap.size W X) :
    Calls Try.prog 11 #[.agg #[.slice A n cc, .int .i64 f, .int .i64 t, a, .int .i64 s, .int .i64 i, .int .i64 g, .int .i64 h, .bool p, .bool c]] X fun e w' => ∃ uA uc, e = .returned (.agg #[.slice uA n uc, .int .i64 f, .int .i64 t]) ∧ Below W.heap.size W w' ∧ Own w' 0 bT 1 (.slice uA n uc) n (bys D) ∧ Below X.heap.size X w' := by
  refine (lkey_any A n cc f t a s i g h p c D B X (hs.below (hX.mono hB)) hD hn (Nat.le_trans hB hX.size)).mono ?_
  rintro e w' ⟨u, rfl, ho, hb⟩
  obtain ⟨uA, uc, rfl, _⟩ := ho.sl.form
  exact ⟨uA, uc, rfl, hX.trans (hb.mono hX.size), ho.lower (Nat.zero_le _), hb⟩
theorem lcell_q (A : Option Addr) (n cc : Nat) (f t : Int) (k : Value) (s i g h : Int) (p c : Bool) (D : List Int) (B : Nat) (W X : World) (hs : Sl W B (.slice A n cc) 1 n (bys D)) (hD : D.length = n) (hn : n ≤ 140737488355328) (hB : B ≤ W.heap.size) (hX : Below W.heap.size W X) :
    Calls Try.prog 12 #[.agg #[k, .int .i64 f, .int .i64 t, .slice A n cc, .int .i64 s, .int .i64 i, .int .i64 g, .int .i64 h, .bool p, .bool c]] X fun e w' => ∃ uA uc, e = .returned (.agg #[.slice uA n uc, .int .i64 s, .int .i64 i, .int .i64 g, .int .i64 h, .bool p, .bool c]) ∧ Below W.heap.size W w' ∧ Own w' 0 bT 1 (.slice uA n uc) n (bys D) ∧ Below X.heap.size X w' := by
  refine (lcell_any A n cc f t k s i g h p c D B X (hs.below (hX.mono hB)) hD hn (Nat.le_trans hB hX.size)).mono ?_
  rintro e w' ⟨u, rfl, ho, hb⟩
  obtain ⟨uA, uc, rfl, _⟩ := ho.sl.form
  exact ⟨uA, uc, rfl, hX.trans (hb.mono hX.size), ho.lower (Nat.zero_le _), hb⟩

/-- behind Put -/
def PutG (w0 X : World) (tb cb : Nat) (wm fm : Option Nat) (bg : Bool) (L W : List (PK × CV)) (F : List (PK × Int)) (kb : List Int) (f t : Int) (d : CD) (r : Int) (w' : World) : Prop :=
  Kt X w' ∧ ((¬ (keyR kb.length f t ∧ d.right) ∧ r = 150 ∧ TabG w0 w' tb cb wm fm bg L W F) ∨
    (d.right ∧ r = 0 ∧ ∃ p : PK, p.b = kb ∧ p.f = f ∧ p.t = t ∧ ∃ c' : CV, c'.d = d ∧ TabG w0 w' tb cb wm fm bg (putM L p c') (kpW bg L W F p) (kpF bg L W F p)))
theorem lput_q (w0 X : World) (tb cb kn kc an ac : Nat) (wm fm : Option Nat) (bg : Bool) (L W : List (PK × CV)) (F : List (PK × Int)) (kA aA : Option Addr) (kb : List Int) (f t : Int) (d : CD) (h : TabG w0 X tb cb wm fm bg L W F)
    (hk : Own X 0 bT 1 (.slice kA kn kc) kn (bys kb)) (hkn : kb.length = kn) (h8 : Bytes8 kb) (ha : Own X 0 bT 1 (.slice aA an ac) an (bys d.b)) (han : d.b.length = an) (ha8 : Bytes8 d.b) :
    Calls Try.prog 10 #[.pointer (some ⟨tb, 0, none⟩), .agg #[.slice kA kn kc, .int .i64 f, .int .i64 t], .agg #[.slice aA an ac, .int .i64 d.s, .int .i64 d.n, .int .i64 d.g, .int .i64 d.h, .bool d.p, .bool d.c]] X fun e w' => ∃ r, e = .returned (.int .i64 r) ∧ PutG w0 X tb cb wm fm bg L W F kb f t d r w' := by
  refine (cput_any X w0.heap.size tb cb X.heap.size kn kc an ac wm fm bg L W F kA aA kb f t d h.ts hk.sl hkn h8 (fun Y hY => ?_) han ha8 (Nat.le_refl _) h.bl.size).mono ?_
  · exact Own.slB ((h.ts.kt hY).own ha (by decide)) (fun g hg => (ha.lt g hg).2)
  · rintro e w3 (⟨hn, rfl, hb⟩ | ⟨hr, rfl, p, hp1, hp2, hp3, c', hc', ht3, hf3⟩)
    · exact ⟨_, rfl, Kt.below hb, .inl ⟨hn, rfl, h.below hb⟩⟩
    · exact ⟨_, rfl, h.ts.kt hf3, .inr ⟨hr, rfl, p, hp1, hp2, hp3, c', hc', ht3, h.after hf3⟩⟩

/-- behind Drop -/
def DropG (w0 X : World) (tb cb : Nat) (wm fm : Option Nat) (bg : Bool) (L W : List (PK × CV)) (F : List (PK × Int)) (kb : List Int) (f t : Int) (b : Bool) (r : Int) (w' : World) : Prop :=
  Kt X w' ∧ ((¬ keyR kb.length f t ∧ b = false ∧ r = 150 ∧ TabG w0 w' tb cb wm fm bg L W F) ∨
    (∃ p : PK, p.b = kb ∧ p.f = f ∧ p.t = t ∧ b = (lk L p).isSome ∧ r = 0 ∧ TabG w0 w' tb cb wm fm bg (delM L p) (if (lk L p).isSome then kpW bg L W F p else W) (if (lk L p).isSome then kpF bg L W F p else F)))
theorem ldrop_q (w0 X : World) (tb cb kn kc B : Nat) (wm fm : Option Nat) (bg : Bool) (L W : List (PK × CV)) (F : List (PK × Int)) (kA : Option Addr) (kb : List Int) (f t : Int) (h : TabG w0 X tb cb wm fm bg L W F)
    (hk : Sl X B (.slice kA kn kc) 1 kn (bys kb)) (hkn : kb.length = kn) (h8 : Bytes8 kb) (hB : B ≤ X.heap.size) :
    Calls Try.prog 15 #[.pointer (some ⟨tb, 0, none⟩), .agg #[.slice kA kn kc, .int .i64 f, .int .i64 t]] X fun e w' => ∃ b r, e = .returned (.tuple #[.bool b, .int .i64 r]) ∧ DropG w0 X tb cb wm fm bg L W F kb f t b r w' := by
  refine (cdrop_any X w0.heap.size tb cb B kn kc wm fm bg L W F kA kb f t h.ts hk hkn h8 hB).mono ?_
  rintro e w3 (⟨hn, rfl, hb⟩ | ⟨p, hp1, hp2, hp3, rfl, ht3, hf3⟩)
  · exact ⟨_, _, rfl, Kt.below hb, .inl ⟨hn, rfl, rfl, h.below hb⟩⟩
  · exact ⟨_, _, rfl, h.ts.kt hf3, .inr ⟨p, hp1, hp2, hp3, rfl, rfl, ht3, h.after hf3⟩⟩
end Go.Proofs.Ytkobaidamdffmaa
