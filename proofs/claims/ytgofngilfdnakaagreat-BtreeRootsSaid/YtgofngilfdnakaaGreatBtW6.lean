/-
  This text proves what the reader's Bool and End do, and general facts about a page whose rows are the call's own.
-/
import Derived.Test.YtgofngilfdnakaaGreatBtW3
import Derived.Test.YtgofngilfdnakaaGreatBtW4
import Derived.Test.YtgofngilfdnakaaGreatApp
namespace Go.Proofs.YtgofngilfdnakaaGreat
open Go Go.RowKit
attribute [local go_sem] over_cell over_frozen lt_over le_over noB loudUpon ByteArray.mk_append_mk ByteArray.extract_mk

set_option maxHeartbeats 800000 in
theorem RBool_calls (b : Nat) (t : Bool) (rest : Str) (took : Nat) (w : World) (h : RdAt w b ⟨numLE (if t then 1 else 0) 1 ++ rest, took, 0⟩) (h1 : took + rest.length ≤ 1000000) :
    Calls Tryz.prog 119 #[.pointer (some ⟨b, 0, none⟩)] w fun e w' => e = .returned (.bool t) ∧ Mod (fun k => k = b) w w' ∧ RdAt w' b ⟨rest, took + 1, 0⟩ := by
  have hr := RNumber_calls b _ 1 (by omega) w h (by simp only [List.length_append, numLE_length]; omega)
  rw [rd_number (if t then 1 else 0) 1 rest took (by cases t <;> decide)] at hr
  have HR := Lib.hid hr
  clear h hr
  cases t
  · go_enter Tryz.func119, Tryz.ntmps119
    go_wp2_with fail
    refine HR.out.mono ?_
    rintro e w' ⟨rfl, hm, hr⟩
    have HM := Lib.hid hm
    have HR2 := Lib.hid hr
    clear hm hr
    go_wp2_with fail
    go_ret
    exact ⟨rfl, HM.out, HR2.out⟩
  · go_enter Tryz.func119, Tryz.ntmps119
    go_wp2_with fail
    refine HR.out.mono ?_
    rintro e w' ⟨rfl, hm, hr⟩
    have HM := Lib.hid hm
    have HR2 := Lib.hid hr
    clear hm hr
    go_wp2_with fail
    go_ret
    exact ⟨rfl, HM.out, HR2.out⟩
theorem End_calls (b : Nat) (took : Nat) (w : World) (h : RdAt w b ⟨[], took, 0⟩) :
    Calls Tryz.prog 113 #[.pointer (some ⟨b, 0, none⟩)] w fun e w' => e = .returned (.int .i64 0) ∧ w = w' := by
  have HE := Lib.hid (Err_calls b _ w h)
  obtain ⟨hb, c0, c1, c2, hf⟩ := h.facts
  simp only at c0 c1 c2 HE
  have HL : Hid (Calls Tryz.prog 149 #[.pointer (some ⟨b, 0, none⟩)] w fun e w' => e = .returned (.int .i64 0) ∧ w = w') := by
    show Calls _ _ _ _ _
    clear HE h
    go_enter Tryz.func149, Tryz.ntmps149
    go_wp2
    go_ret
    exact ⟨rfl, rfl⟩
  clear h c0 c1 c2
  go_enter Tryz.func113, Tryz.ntmps113
  go_wp2_with fail
  refine HL.out.mono ?_
  rintro e w' ⟨rfl, rfl⟩
  go_wp2_with fail
  refine HE.out.mono ?_
  rintro e w' ⟨rfl, rfl⟩
  go_wp2_with fail
  go_ret
  exact ⟨rfl, rfl⟩

theorem at_world6 {P : World → Prop} {w : World} (F : World → Prop) (h : F w) (k : ∀ w, F w → P w) : P w := k w h
/-- A page's rows, the call's own. -/
structure PgOwn (w : World) (base : Nat) (kv vv cv : Value) (ks vs : List Str) (cs : List Nat) : Prop where
  k : w.ownsRow base 9 1 kv ks.length (ks.map txt)
  v : w.ownsRow base 9 1 vv vs.length (vs.map txt)
  c : w.ownsRow base 3 1 cv cs.length (cs.map numV)
  apart : ∀ q, kv.ownBlock = some q → vv.ownBlock ≠ some q
theorem PgOwn.keep {w w' : World} {base : Nat} {kv vv cv : Value} {ks vs : List Str} {cs : List Nat} {G : Nat → Prop} (h : PgOwn w base kv vv cv ks vs cs) (hm : Mod G w w') (hG : ∀ q, q < w.heap.size → G q → base ≤ q → ∃ c T f, w.heap[q]? = some (.cells c T f) ∧ 9 ≠ T ∧ 3 ≠ T) : PgOwn w' base kv vv cv ks vs cs :=
  ⟨own_of_mod h.k hm (fun q hq hg => by obtain ⟨c, T, f, h1, h2, h3⟩ := hG q (h.k.lt q hq).2 hg (h.k.lt q hq).1; exact h2 (own_type h.k hq h1)),
   own_of_mod h.v hm (fun q hq hg => by obtain ⟨c, T, f, h1, h2, h3⟩ := hG q (h.v.lt q hq).2 hg (h.v.lt q hq).1; exact h2 (own_type h.v hq h1)),
   own_of_mod h.c hm (fun q hq hg => by obtain ⟨c, T, f, h1, h2, h3⟩ := hG q (h.c.lt q hq).2 hg (h.c.lt q hq).1; exact h3 (own_type h.c hq h1)), h.apart⟩
theorem PgOwn.mod {w w' : World} {base : Nat} {kv vv cv : Value} {ks vs : List Str} {cs : List Nat} (h : PgOwn w base kv vv cv ks vs cs) (hm : Mod NoB w w') : PgOwn w' base kv vv cv ks vs cs := h.keep hm (fun _ _ h => h.elim)
theorem PgOwn.nil (w : World) (base : Nat) : PgOwn w base (.slice none 0 0) (.slice none 0 0) (.slice none 0 0) [] [] [] :=
  ⟨World.ownsRow_nil _ _ _ _, World.ownsRow_nil _ _ _ _, World.ownsRow_nil _ _ _ _, fun q hq => by cases hq⟩
theorem PgOwn.shapes {w : World} {base : Nat} {kv vv cv : Value} {ks vs : List Str} {cs : List Nat} (h : PgOwn w base kv vv cv ks vs cs) : (∃ a c, kv = .slice a ks.length c) ∧ (∃ a c, vv = .slice a vs.length c) ∧ ∃ a c, cv = .slice a cs.length c := by
  obtain ⟨a1, c1, e1, _⟩ := own_shape h.k
  obtain ⟨a2, c2, e2, _⟩ := own_shape h.v
  obtain ⟨a3, c3, e3, _⟩ := own_shape h.c
  exact ⟨⟨_, _, e1⟩, ⟨_, _, e2⟩, _, _, e3⟩
/-- A row anew: in its own block, or in a new one. -/
def Anew (w : World) (v v' : Value) : Prop := v'.ownBlock = v.ownBlock ∨ ∃ q, v'.ownBlock = some q ∧ w.heap.size ≤ q
theorem PgOwn.addK {w w' : World} {base : Nat} {kv vv cv kv' : Value} {ks vs ks' : List Str} {cs : List Nat} (h : PgOwn w base kv vv cv ks vs cs) (hk : w'.ownsRow base 9 1 kv' ks'.length (ks'.map txt)) (hm : Mod (fun q => kv.ownBlock = some q) w w') (hb : Anew w kv kv') : PgOwn w' base kv' vv cv ks' vs cs :=
  ⟨hk, own_of_mod h.v hm (fun q hq e => h.apart q e hq), own_of_mod h.c hm (fun q hq e => own_apart h.k h.c (by decide) q e hq), fun q hq e => by
    rcases hb with hb | ⟨q', hb, hl⟩
    · exact h.apart q (hb ▸ hq) e
    · have := (h.v.lt q e).2
      rw [hb] at hq
      cases hq
      omega⟩
theorem PgOwn.addV {w w' : World} {base : Nat} {kv vv cv vv' : Value} {ks vs vs' : List Str} {cs : List Nat} (h : PgOwn w base kv vv cv ks vs cs) (hv : w'.ownsRow base 9 1 vv' vs'.length (vs'.map txt)) (hm : Mod (fun q => vv.ownBlock = some q) w w') (hb : Anew w vv vv') : PgOwn w' base kv vv' cv ks vs' cs :=
  ⟨own_of_mod h.k hm (fun q hq e => h.apart q hq e), hv, own_of_mod h.c hm (fun q hq e => own_apart h.v h.c (by decide) q e hq), fun q hq e => by
    rcases hb with hb | ⟨q', hb, hl⟩
    · exact h.apart q hq (hb ▸ e)
    · have := (h.k.lt q hq).2
      rw [hb] at e
      cases e
      omega⟩
theorem PgOwn.addC {w w' : World} {base : Nat} {kv vv cv cv' : Value} {ks vs : List Str} {cs cs' : List Nat} (h : PgOwn w base kv vv cv ks vs cs) (hc : w'.ownsRow base 3 1 cv' cs'.length (cs'.map numV)) (hm : Mod (fun q => cv.ownBlock = some q) w w') : PgOwn w' base kv vv cv' ks vs cs' :=
  ⟨own_of_mod h.k hm (fun q hq e => own_apart h.k h.c (by decide) q hq e), own_of_mod h.v hm (fun q hq e => own_apart h.v h.c (by decide) q hq e), hc, h.apart⟩
theorem PgOwn.in1 {w : World} {base : Nat} {kv vv cv : Value} {p : Pg} (h : PgOwn w base kv vv cv p.keys p.vals p.kids) : PgIn w kv vv cv p := ⟨own_in h.k, own_in h.v, own_in h.c⟩
/-- A page's variable, and its rows, the call's own. -/
def PageAt (w : World) (P base : Nat) (p : Pg) : Prop := ∃ ka kc va vc ca cc, w.heap[P]? = some (.cells #[.bool p.leaf, .slice ka p.keys.length kc, .slice va p.vals.length vc, .slice ca p.kids.length cc] 130 (0, 0)) ∧
  PgOwn w base (.slice ka p.keys.length kc) (.slice va p.vals.length vc) (.slice ca p.kids.length cc) p.keys p.vals p.kids
theorem PageAt.keep {w w' : World} {P base : Nat} {p : Pg} {G : Nat → Prop} (h : PageAt w P base p) (hm : Mod G w w') (hP : ¬ G P) (hG : ∀ q, q < w.heap.size → G q → base ≤ q → ∃ c T f, w.heap[q]? = some (.cells c T f) ∧ 9 ≠ T ∧ 3 ≠ T) : PageAt w' P base p := by
  obtain ⟨ka, kc, va, vc, ca, cc, h1, h2⟩ := h
  exact ⟨ka, kc, va, vc, ca, cc, (hm.block P (lt_heap h1) hP).trans h1, h2.keep hm hG⟩
theorem PageAt.mod {w w' : World} {P base : Nat} {p : Pg} (h : PageAt w P base p) (hm : Mod NoB w w') : PageAt w' P base p := h.keep hm id (fun _ _ h => h.elim)
theorem ins_anew {w : World} {a b : Option Addr} {n n' c c' : Nat} (h : (Value.slice a n c).ownBlock = (Value.slice b n' c').ownBlock ∨ (Value.slice a n c).ownBlock = some w.heap.size) : Anew w (.slice b n' c') (.slice a n c) := by
  rcases h with h | h
  · exact .inl h
  · exact .inr ⟨_, h, Nat.le_refl _⟩
theorem elemS1 : Elem Tryz.prog 77 9 1 16 := elem_of Tryz.underlying77 (z := .string ⟨#[]⟩) (by kernel_rfl) rfl (by decide)
theorem elemI1 : Elem Tryz.prog 38 3 1 8 := elem_of Tryz.underlying38 (z := .int .i64 0) (by kernel_rfl) rfl (by decide)

/-- Where a page's bytes are read. -/
structure DecAt (W : World) (D R P : Nat) (q : Pg) (rest : Str) (w : World) : Prop where
  rd : ∃ took, RdAt w R ⟨rest, took, 0⟩ ∧ took + rest.length ≤ 80000
  res : w.heap[D]? = some (.cells #[.bool false, .slice none 0 0, .slice none 0 0, .slice none 0 0] 130 (0, 0))
  page : PageAt w P W.heap.size q
  mod : Mod NoB W w
/-- One more is read into a row: X behind the reader, X' behind the append, Y behind the store. -/
theorem DecAt.next {W wr X X' Y : World} {D R P : Nat} {q q' : Pg} {rest rest' : Str} {x0 x1 x2 x3 old : Value} (hD : W.heap.size ≤ D) (hDR : D < R) (hRP : R < P) (h : DecAt W D R P q rest wr)
    (hP : wr.heap[P]? = some (.cells #[x0, x1, x2, x3] 130 (0, 0)))
    (hX : Mod (fun k => k = R) wr X) (hrd : ∃ took, RdAt X R ⟨rest', took, 0⟩ ∧ took + rest'.length ≤ 80000)
    (hX' : Mod (fun k => old.ownBlock = some k) X X') (hold : ∀ k, old.ownBlock = some k → W.heap.size ≤ k ∧ ∃ c T f, X.heap[k]? = some (.cells c T f) ∧ T ≠ 130 ∧ T ≠ 216)
    (hY : Mod (fun k => k = P) X' Y) (hpg : PageAt Y P W.heap.size q') : DecAt W D R P q' rest' Y := by
  obtain ⟨took, h1, h2⟩ := hrd
  have hPX := (hX.block P (lt_heap hP) (by omega)).trans hP
  have hDX := (hX.block D (lt_heap h.res) (by omega)).trans h.res
  refine ⟨⟨took, ?_, h2⟩, ?_, hpg, ?_⟩
  · have e1 := hX'.block R (lt_heap h1) (fun e => by
      obtain ⟨_, c, T, f, e2, _, e3⟩ := hold R e
      have h1' : X.heap[R]? = _ := h1
      rw [h1'] at e2
      cases e2
      exact e3 rfl)
    exact ((hY.block R (Nat.lt_of_lt_of_le (lt_heap h1) hX'.size) (by omega)).trans e1).trans h1
  · have e1 := hX'.block D (lt_heap hDX) (fun e => by
      obtain ⟨_, c, T, f, e2, e3, _⟩ := hold D e
      rw [hDX] at e2
      cases e2
      exact e3 rfl)
    exact ((hY.block D (Nat.lt_of_lt_of_le (lt_heap hDX) hX'.size) (by omega)).trans e1).trans hDX
  · exact ((h.mod.trans hX (fun k hk e => by omega)).trans hX' (fun k hk e => by have := (hold k e).1; omega)).trans hY (fun k hk e => by omega)
theorem pageAt_mk {W6 Y : World} {P base : Nat} {q : Pg} {a1 a2 a3 : Option Addr} {c1 c2 c3 : Nat} {cs : Array Value} (hY : Y.heap[P]? = some (.cells #[.bool q.leaf, .slice a1 q.keys.length c1, .slice a2 q.vals.length c2, .slice a3 q.kids.length c3] 130 (0, 0)))
    (hO : PgOwn W6 base (.slice a1 q.keys.length c1) (.slice a2 q.vals.length c2) (.slice a3 q.kids.length c3) q.keys q.vals q.kids) (hm : Mod (fun k => k = P) W6 Y) (hP : W6.heap[P]? = some (.cells cs 130 (0, 0))) : PageAt Y P base q :=
  ⟨a1, c1, a2, c2, a3, c3, hY, hO.keep hm (fun k _ e _ => by subst e; exact ⟨_, _, _, hP, by decide, by decide⟩)⟩
theorem own_hold {w : World} {base n : Nat} {E : TypeId} {v : Value} {xs : List Value} (h : w.ownsRow base E 1 v n xs) (h1 : E ≠ 130) (h2 : E ≠ 216) : ∀ k, v.ownBlock = some k → base ≤ k ∧ ∃ c T f, w.heap[k]? = some (.cells c T f) ∧ T ≠ 130 ∧ T ≠ 216 := fun k hk => by
  refine ⟨(h.lt k hk).1, ?_⟩
  rcases h.2 with ⟨rfl, _⟩ | ⟨g, cap, cur, rfl, hb, hg, _⟩
  · simp [Value.ownBlock] at hk
  · simp [Value.ownBlock] at hk
    subst hk
    exact ⟨_, _, _, hg, h1, h2⟩

end Go.Proofs.YtgofngilfdnakaaGreat
