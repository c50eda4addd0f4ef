/-
  This text proves what the package btree's keep does with a page of a tree: the tree's keys stay; under bounds on lengths.
-/
import Derived.Test.YtgofngilfdnakaaGreatBtW10q

namespace Go.Proofs.YtgofngilfdnakaaGreat
open Go Go.RowKit

/-- What becomes of a page of a tree. -/
def Kept (w : World) (t l p : Nat) (root : Int) (g : Lg) (n m d : Nat) (lo : Str) (hi : Option Str) (M : Files) (e : Ending) (w' : World) : Prop :=
  ∃ a b key two g', e = .returned (.tuple #[splitV a b key two, .int .i64 0]) ∧ Mod (fun k => k = l) w w' ∧ TL w' t l p g' root ∧ Grew g g' ∧ g'.wait.length ≤ g.wait.length + n ∧ SplitR (rdG g') m d lo hi M a b key two
theorem keep_calls (t l p : Nat) (g : Lg) (root : Int) (q : Pg) (kv vv cv : Value) (m d base : Nat) (lo : Str) (hi : Option Str) (M : Files) (w : World) (h : TL w t l p g root) (ho : PgOwn w base kv vv cv q.keys q.vals q.kids) (hr : RepP (rdG g) d q lo hi M)
    (h1 : 1 ≤ q.keys.length) (h12 : q.keys.length ≤ 12) (hm4 : m ≤ 4) (hm : m ≤ q.keys.length) (hs : Small g 1) :
    Calls Tryz.prog 143 #[.pointer (some ⟨t, 0, none⟩), pageV q kv vv cv] w (Kept w t l p root g 140200 m d lo hi M) := by
  have hs0 : Small g 0 := by unfold Small at *; omega
  have htop : g.top' ≤ 1000000000 := by unfold Small at hs; unfold Lg.top'; omega
  by_cases h8 : q.keys.length ≤ 8
  · have hq := rep_ok hr h1 h8
    refine (keep_small t l p g root q kv vv cv w h ho.in1 hq hs0).mono fun e w' ⟨e1, e2, e3⟩ => ⟨_, _, _, _, _, e1, e2, e3, Grew.lay hq, by have := lay_size (g := g) hq; omega, fun _ => rep_less hm (keep_one hr h1 h8 (by omega)), (fun e => by cases e)⟩
  · obtain ⟨s, hsk⟩ : ∃ s, q.keys[q.keys.length / 2]? = some s := ⟨_, List.getElem?_eq_getElem (by omega)⟩
    obtain ⟨oa, ob, hsp⟩ := keep_two hr (by omega) h12 hsk (by omega)
    have hla := lay_size (g := g) oa
    have hlb := lay_size (g := g.lay (q.lower (q.keys.length / 2))) ob
    have hk := own_off (l := l) ho.k h.log (by decide)
    have fin : ∀ e w', KeepPost w t l p root g.top' (g.lay (q.lower (q.keys.length / 2))).top' s true ((g.lay (q.lower (q.keys.length / 2))).lay (q.upper (q.keys.length / 2))) e w' → Kept w t l p root g 140200 m d lo hi M e w' := fun e w' ⟨e1, e2, e3⟩ =>
      ⟨_, _, _, _, _, e1, e2, e3, (Grew.lay oa).trans (Grew.lay ob), by omega, (fun e => by cases e), hsp.both⟩
    cases hl : q.leaf with
    | true =>
      have hvl : q.vals.length = q.keys.length := by
        cases d with
        | zero => rw [hr.2.2.1, hr.2.2.2.1]; simp
        | succ d => have := hr.1; rw [hl] at this; cases this
      exact (keep_leaf t l p _ g root q s kv vv cv w h ho.in1 hl (by omega) h12 hvl rfl hsk oa ob hs hk (own_off (l := l) ho.v h.log (by decide))).mono fin
    | false =>
      have hcl : q.kids.length = q.keys.length + 1 := by
        cases d with
        | zero => have := hr.1; rw [hl] at this; cases this
        | succ d => exact kr_length hr.2.2.2
      exact (keep_node t l p _ g root q s kv vv cv w h ho.in1 hl (by omega) h12 hcl rfl hsk oa ob hs hk (own_off (l := l) ho.c h.log (by decide))).mono fin

end Go.Proofs.YtgofngilfdnakaaGreat
