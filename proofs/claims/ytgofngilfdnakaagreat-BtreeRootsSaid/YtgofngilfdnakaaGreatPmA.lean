/-
  This text proves what disk's changes (Append, Write, Move, Remove, Truncate) do to a disk in memory: under bounds that the callers meet.
-/
import Derived.Test.YtgofngilfdnakaaGreatStage
import Derived.RangeFuncNested
import Derived.RangeFuncBound
import Derived.RangeFuncCalls
import Derived.RangeFuncLeaves
import Derived.OwnWalkIn
import Derived.TacticsInMore
import Derived.LoopNIn
import Derived.LoopIn
import Derived.Test.YtgofngilfdnakaaGreatDiskC
import Derived.Laws.Bits
import Derived.Lib.MinMax
import Derived.Test.YtgofngilfdnakaaGreatFiles

namespace Go.Proofs.YtgofngilfdnakaaGreat
open Go Go.RowKit

theorem wpSt_four {P : Program} {ops : Array Oper} {Cs : List (World → Prop)} {Q : Act → Prop} {o : Oper} {rest : List Oper} {is : List StI} {a : Act} {lo : Nat} {C1 C2 C3 C4 : World → Prop} (h1 : Cs[lo]? = some C1) (h2 : Cs[lo + 1]? = some C2) (h3 : Cs[lo + 2]? = some C3) (h4 : Cs[lo + 3]? = some C4) (hd : ∃ d, o.dst = some d ∧ d < a.tmps.size)
    (h : wpQuiet P ops C1 (fun a' => wpQuiet P ops C2 (fun a'' => a'' = a' ∧ wpQuiet P ops C3 (fun a3 => a3 = a' ∧ wpQuiet P ops C4 (fun a4 => a4 = a' ∧ wpSt P ops (clsOf Cs) Q rest is a') [o] a) [o] a) [o] a) [o] a) :
    wpSt P ops (clsOf Cs) Q (o :: rest) (⟨lo, lo + 3, false⟩ :: is) a := by
  unfold wpSt
  by_cases hw : Region.wanted o (yielded ops a.tmps) = true
  · simp only [wpQuiet, hw, if_true] at h ⊢
    obtain ⟨v, hv, u, hu, he, u', hu', he', u4, hu4, he4, hK⟩ := h
    obtain ⟨d, hd1, hd2⟩ := hd
    have same : ∀ x, a.put o.dst x = a.put o.dst v → x = v := fun x he => by
      rw [hd1] at he
      have := congrArg (fun b : Act => b.tmps[d]?) he
      simpa [Act.put, Array.getElem?_setIfInBounds, hd2] using this
    obtain rfl := same _ he
    obtain rfl := same _ he'
    obtain rfl := same _ he4
    refine ⟨_, ?_, hK⟩
    unfold stepOk
    simp only [Bool.false_eq_true, if_false]
    intro s w hs1 hs2 hC
    have hs : s = lo ∨ s = lo + 1 ∨ s = lo + 2 ∨ s = lo + 3 := by omega
    rcases hs with hs | hs | hs | hs
    · subst hs
      rw [clsOf_eq h1] at hC ⊢
      exact loud_of_quiet hC (hv w hC)
    · subst hs
      rw [clsOf_eq h2] at hC ⊢
      exact loud_of_quiet hC (hu w hC)
    · subst hs
      rw [clsOf_eq h3] at hC ⊢
      exact loud_of_quiet hC (hu' w hC)
    · subst hs
      rw [clsOf_eq h4] at hC ⊢
      exact loud_of_quiet hC (hu4 w hC)
  · simp only [wpQuiet, hw, Bool.false_eq_true, if_false] at h ⊢
    exact ⟨(fun h' => by cases h'), h.2.2.2⟩

def SeqMod {α : Type} (F : Fence) (n : Nat) (P : Program) (g : Nat) (lb : Array Value) (encs : α → Array Value) (G B : Nat → Prop) (xs : List α) (w : World) : Prop :=
  ∀ (l : Nat) (J : List α → World → Prop) (W : World), Mod NoB w W → (∀ s X Y, J s X → Mod G X Y → J s Y) →
    (∀ pre x, (∃ post, xs = pre ++ x :: post) → ∀ W1, J pre W1 → YieldAt F (n - 1) P l (encs x) W1 fun e W' => e = .returned (.bool true) ∧ J (pre ++ [x]) W' ∧ Mod (fun k => B k ∨ w.heap.size ≤ k) W1 W') →
    J [] W → CallsIn F n P g (#[.func (.yield l) #[] #[]] ++ lb) W fun e W' => (∃ v, e = .returned v) ∧ J xs W'

theorem mod_putObj {F : Nat → Prop} (W : World) (l : Nat) (o : Obj) (hl : F l) : Mod F W (W.putObj l o) :=
  ⟨rfl, rfl, rfl, by simp [World.putObj], fun k _ hk => World.putObj_heap_other (fun e => hk (e ▸ hl))⟩

theorem wpIn_rangeFunc_mod {F : Fence} {n : Nat} {P : Program} {α : Type} {g : Operand} {ps : Array Tmp} {assign body : Code} {Q : Exit → Act → World → Prop} {a : Act} {w : World}
    (hro : F.round = none) (h1 : 1 ≤ n) {gf : Nat} {lb : Array Value} (hg : a.eval g = .func (.func gf) #[] lb) (hFg : F.fn gf) (eg : ∀ args w, (callFunc gf args).run P w = .ok (.enter gf args) w)
    {encs : α → Array Value} {G B : Nat → Prop} {xs : List α} (hseq : SeqMod F (n - 1) P gf lb encs G B xs w) (hps : ∀ x, (encs x).size = ps.size)
    (hG : ∀ k, G k → k < w.heap.size) (hB : ∀ k, B k → k < w.heap.size)
    (I : List α → World → Prop) (hI : ∀ s X Y, I s X → Mod (fun k => G k ∨ (w.heap.size ≤ k ∧ k < w.heap.size + 2)) X Y → I s Y) (h0 : I [] w)
    (Ax : List α → α → Act → World → Prop) (hAx : ∀ pre x a' X Y, Ax pre x a' X → Mod (fun k => w.heap.size ≤ k ∧ k < w.heap.size + 2) X Y → Ax pre x a' Y)
    (hassign : ∀ (l : Nat) (pre : List α) (x : α) (W : World), I pre W → w.heap.size + 2 ≤ W.heap.size →
      assign.wpIn (F.inRound l) (n - 1 - 1) P (Exit.then (fun a' W' => Mod NoB W W' ∧ Ax pre x a' W') (fun _ _ _ => False)) { tmps := (ps.zip (encs x)).foldl (fun t (p, v) => t.setIfInBounds p v) a.tmps, defers := [] } W)
    (hbody : ∀ (l : Nat) (pre : List α) (x : α) (a' : Act) (W : World), (∃ post, xs = pre ++ x :: post) → Ax pre x a' W → w.heap.size + 2 ≤ W.heap.size → body.wpIn (F.inRound l) (n - 1 - 1) P (fun e _ W' => e = .normal ∧ Mod B W W' ∧ I (pre ++ [x]) W') a' W)
    (hdone : ∀ (W : World), I xs W → w.heap.size + 2 ≤ W.heap.size → W.heap[w.heap.size]? = some (.deferred (some [])) → Q .normal { a with defers := { target := .collected w.heap.size, args := #[] } :: a.defers } W) :
    (Code.rangeFunc g ps assign body).wpIn F n P Q a w := by
  refine wpIn_rangeFunc ?_
  intro fn hfn
  rw [hro]
  obtain ⟨rec, hrec⟩ : ∃ rec : LoopState → Option Code → Loop, rec = fun st pe => { state := st, pending := pe, fn, tmps := a.tmps, params := ps, assign, body, defers := w.heap.size } := ⟨_, rfl⟩
  obtain ⟨W1, hW1⟩ : ∃ W1, (w.alloc (.deferred (some []))).alloc (.loop (rec .ready none)) = W1 := ⟨_, rfl⟩
  have hL1 : W1.heap[w.heap.size + 1]? = some (.loop (rec .ready none)) := by
    rw [← hW1]; have := World.alloc_heap_new (w.alloc (.deferred (some []))) (.loop (rec .ready none)); rwa [World.size_alloc] at this
  have hK1 : W1.heap[w.heap.size]? = some (.deferred (some [])) := by
    rw [← hW1, heap_alloc_lt _ _ _ (by simp)]; exact World.alloc_heap_new w _
  have hM1 : Mod NoB w W1 := by rw [← hW1]; exact ((Mod.refl _ _).alloc _).alloc _
  have hI1 : I [] W1 := hI _ _ _ h0 (hM1.mono (noB_sub _ _))
  have hB1 : Mod NoB w W1 := hM1
  have hne : w.heap.size + 1 ≠ w.heap.size := by omega
  refine ⟨w.heap.size + 1, [{ target := .collected w.heap.size, args := #[] }], W1, { target := .fn (.func gf) lb, args := #[.func (.yield (w.heap.size + 1)) #[] #[]] }, W1, gf,
    #[.func (.yield (w.heap.size + 1)) #[] #[]] ++ lb, W1, ?_, ?_, ?_, ?_, fun _ => h1, ?_⟩
  · rw [← hW1, hrec]; exact run_enterLoop_outer _ _ _ _ _
  · simp only [resolve, hg]
    simp [go_sem]
  · intro f' hf'; simp [Target.leads] at hf'; subst hf'; exact hFg
  · simp [invoke, go_sem, eg]
  · refine (hseq (w.heap.size + 1)
      (fun pre W => I pre W ∧ W.heap[w.heap.size + 1]? = some (.loop (rec .ready none)) ∧ W.heap[w.heap.size]? = some (.deferred (some [])))
      W1 hB1 ?_ ?_ ⟨hI1, hL1, hK1⟩).mono ?_
    · rintro s X Y ⟨hi, hl, hk⟩ hm
      have h1 := lt_heap hl
      have h2 := lt_heap hk
      exact ⟨hI _ _ _ hi (hm.mono (fun _ _ h => .inl h)), (hm.block _ h1 (fun h => by have := hG _ h; omega)).trans hl, (hm.block _ h2 (fun h => by have := hG _ h; omega)).trans hk⟩
    · rintro pre x hpost W ⟨hi, hl, hk⟩
      have hlt := lt_heap hl
      have hy := run_yield (P := P) (args := encs x) hl (by rw [hrec]; exact hps x)
      rw [hrec] at hy
      refine ⟨fn, _, assign, body, hy, roundIn_of_wpIn hfn (wpIn_mono (hassign _ pre x W hi (by omega)) ?_)⟩
      rintro e a' Wa hp
      cases e with
      | normal =>
        obtain ⟨hma, hax⟩ := hp
        have hl' : Wa.heap[w.heap.size + 1]? = some (.loop (rec .ready none)) := (hma.block _ hlt id).trans hl
        have hk' : Wa.heap[w.heap.size]? = some (.deferred (some [])) := (hma.block _ (lt_heap hk) id).trans hk
        have hlt' := lt_heap hl'
        refine ⟨_, run_beginRound hl' (by rw [hrec]), ?_⟩
        have hm2 : Mod (fun k => w.heap.size ≤ k ∧ k < w.heap.size + 2) Wa (Wa.putObj (w.heap.size + 1) (.loop { rec .ready none with state := .busy })) := mod_putObj _ _ _ ⟨by omega, by omega⟩
        have hl2 : (Wa.putObj (w.heap.size + 1) (.loop { rec .ready none with state := .busy })).heap[w.heap.size + 1]? = some (.loop { rec .ready none with state := .busy }) := World.putObj_heap_same hlt'
        have hk2 : (Wa.putObj (w.heap.size + 1) (.loop { rec .ready none with state := .busy })).heap[w.heap.size]? = some (.deferred (some [])) := (World.putObj_heap_other (by omega)).trans hk'
        refine wpIn_mono (hbody _ pre x a' _ hpost (hAx _ _ _ _ _ hax hm2) (Nat.le_trans (show w.heap.size + 2 ≤ Wa.heap.size by omega) hm2.size)) ?_
        rintro e a3 W3 ⟨rfl, hm3, hi3⟩
        have hl3 := (hm3.block _ (lt_heap hl2) (fun h => by have := hB _ h; omega)).trans hl2
        have hk3 := (hm3.block _ (lt_heap hk2) (fun h => by have := hB _ h; omega)).trans hk2
        have hr := run_endRound (P := P) none hl3
        rw [hrec] at hr hl3
        have hm4 : ∀ o, Mod (fun k => w.heap.size ≤ k ∧ k < w.heap.size + 2) W3 (W3.putObj (w.heap.size + 1) o) := fun o => mod_putObj _ _ _ ⟨by omega, by omega⟩
        refine ⟨_, _, hr, rfl, ⟨hI _ _ _ hi3 ((hm4 _).mono (fun _ _ h => .inr h)), by rw [hrec]; exact World.putObj_heap_same (lt_heap hl3), (World.putObj_heap_other (by omega)).trans hk3⟩, ?_⟩
        refine ((((hma.mono (noB_sub _ _)).trans hm2 (fun _ _ h => .inr h.1)).trans hm3 (fun _ _ h => .inl h)).trans (hm4 _) (fun _ _ h => .inr h.1))
      | _ => exact hp.elim
    · rintro e W2 ⟨⟨v, rfl⟩, hi, hl, hk⟩
      have hlt := lt_heap hl
      exact ⟨none, _, by have := run_endLoop (P := P) hl (by rw [hrec]; simp); rw [hrec] at this; exact this,
        hdone _ (hI _ _ _ hi (mod_putObj _ _ _ (.inr ⟨by omega, by omega⟩))) (by simp [World.putObj]; omega) ((World.putObj_heap_other (by omega)).trans hk)⟩

/-! ### a region that draws its order, within a round -/
theorem rowsIn_wide {n : Nat} {P : Program} {row : String} {args : Array Value} {w : World} {R : Value → World → Prop} (h : Rows P row args w R) : RowsIn Fence.wide n P row args w R :=
  fun c cs _ => let ⟨v, w', hr, hs⟩ := h c cs; ⟨v, w', hr, stepsIn_wide.2 hs⟩
theorem wpOpIn_round {l n : Nat} {P : Program} {ops : Array Oper} {Q : Exit → Act → World → Prop} {i : Nat} {K K' : Act → World → Prop} {a : Act} {w : World} (hnd : ∀ o, ops[i]? = some o → ∀ c, o.op ≠ .defer c) (hQ : ¬ LetsOut Q)
    (hK : ∀ a w, K a w → K' a w) (h : wpOp P ops Q i K a w) : wpOpIn (Fence.wide.inRound l) n P ops Q i K' a w := by
  unfold wpOp at h
  unfold wpOpIn
  cases ho : ops[i]? with
  | none => rw [ho] at h; exact hK _ _ h
  | some o =>
    rw [ho] at h
    simp only at h ⊢
    split
    · rename_i hw
      rw [if_pos hw] at h
      rcases h with h | ⟨_, h⟩
      · refine ⟨fun _ _ => trivial, ?_⟩
        have hsem : Oper.semAt (Fence.wide.inRound l).round a.eval o = execOp a.eval o := Oper.semAt_some l _ o (hnd o ho)
        rw [hsem]
        unfold Oper.wp at h
        generalize (execOp a.eval o).run P w = r at *
        cases r with
        | ok x w' =>
          cases x with
          | value v => exact hK _ _ h
          | skip => exact hK _ _ h
          | defer d => exact hK _ _ h
          | enter f args =>
            refine ⟨fun h => (by cases h), CallsIn.inRound l (callsIn_wide.2 (Calls.mono h fun e w'' he => ?_))⟩
            cases e with
            | returned v => exact hK _ _ he
            | panicked c => exact he
            | outgrown => exact he
          | row r args => exact ⟨fun h => (by cases h), rowsIn_wide (Rows.mono h fun v w'' he => hK _ _ he)⟩
          | _ => exact h.elim
        | halt x w' =>
          cases x with
          | panic v => exact h
          | _ => exact h.elim
      · exact absurd h hQ
    · rename_i hw
      rw [if_neg hw] at h
      exact ⟨fun _ _ => trivial, hK _ _ h⟩
theorem wpAnyIn_round {l n : Nat} {P : Program} {md : Region.Mode} {ops : Array Oper} {Q : Exit → Act → World → Prop} (hnd : ∀ (i : Nat) (o : Oper), ops[i]? = some o → ∀ c, o.op ≠ .defer c) (hQ : ¬ LetsOut Q) :
    ∀ (fuel : Nat) (listed : Array Bool) (a : Act) (w : World), wpAny P md ops Q fuel listed a w → wpAnyIn (Fence.wide.inRound l) n P md ops Q fuel listed a w
  | 0, _, _, _, h => h
  | fuel + 1, listed, _, _, h => ⟨h.1, fun i hi => wpOpIn_round (hnd i) hQ (fun a w => wpAnyIn_round hnd hQ fuel (listed.setIfInBounds i true) a w) (h.2 i hi)⟩
def noDefer (o : Oper) : Bool := match o.op with | .defer _ => false | _ => true
theorem wpIn_round_quiet_tail {P : Program} {C : World → Prop} {id l n : Nat} {Q : Exit → Act → World → Prop} {a : Act} {w : World} {ops : List Oper} (k : Nat) (hm : P.follows .mixedOrders = true) (hB : Region.lexTailB .any ops.toArray k = true)
    (hnd : ops.all noDefer = true) (hQ : ¬ LetsOut Q) (hC : C w.drew)
    (h : wpQuiet P ops.toArray C (fun a' => ∀ w', C w' → wpList P ops.toArray Q (ops.drop k) a' w') (ops.take k) a) : (Code.region id ops.toArray true).wpIn (Fence.wide.inRound l) n P Q a w := by
  simp only [Region.lexTailB, Bool.and_eq_true, decide_eq_true_eq] at hB
  obtain ⟨⟨⟨⟨hsel, hn⟩, hs⟩, hc⟩, hlex⟩ := hB
  have hn' : k < ops.length := by simpa using hn
  have htl : (ops.take k).length = k := by simp; omega
  have hdl : (ops.drop k).length = ops.toArray.size - k := by simp
  have inv0 : HeadInv .any ops.toArray k (Array.replicate ops.toArray.size false) :=
    ⟨by simp, fun j oj _ hl => (by rw [getD_replicate_false] at hl; cases hl), fun t _ ht => getD_in (by simpa using ht) (getD_replicate_false _ _)⟩
  have H := wpAnyLQ_lex (md := .any) (C := C) (g := ops.toArray.size - k) hsel hs hc hn (ops.take k) 0 _ a (fun j hj => by
    have hj' : j < k := by rw [htl] at hj; exact hj
    simp [hj']) (by simpa using htl) inv0 (by rw [htl]; exact hlex) h
  refine wpIn_region_any hm (wpAnyIn_round (fun i o ho c he => ?_) hQ _ _ _ _ ?_)
  · have := List.all_eq_true.1 hnd o (by simpa using Array.mem_of_getElem? ho)
    simp [noDefer, he] at this
  · have := wpAny_of_headQ (Q' := Q) (g := ops.toArray.size - k) (fun listed a' w' hw' hL => by
      have := wpAny_of_seq (md := .any) (Q' := Q) (ops.drop k) k listed a' w' (fun j => by simp [List.getElem?_drop]) (by rw [hdl]; exact hL.1) (hL.2 w' hw')
      rwa [hdl] at this) _ _ _ w.drew hC H
    rw [htl, show k + (ops.toArray.size - k) = ops.toArray.size by omega] at this
    exact this

end Go.Proofs.YtgofngilfdnakaaGreat

namespace Go.Proofs.YtgofngilfdnakaaGreat
open Go Go.RowKit
attribute [local go_sem] over_cell over_frozen lt_over le_over noB loudUpon ByteArray.mk_append_mk ByteArray.extract_mk Oper.semAt_some

theorem and_one_i64 (x : Int) : bits .and .i64 x 1 = x % 2 := by
  show IntKind.i64.wrap ((BitVec.ofInt 64 x &&& BitVec.ofInt 64 1).toNat : Int) = _
  have h1 : (BitVec.ofInt 64 1).toNat = 1 := by decide
  rw [BitVec.toNat_and, h1, Nat.and_one_is_mod, BitVec.toNat_ofInt]
  have h2 : (((x % ((2 ^ 64 : Nat) : Int)).toNat % 2 : Nat) : Int) = x % 2 := by omega
  rw [h2]
  have : x % 2 = 0 ∨ x % 2 = 1 := by omega
  rcases this with h | h <;> rw [h] <;> decide

theorem surv_end (keep torn : Int) (k : Nat) (l : List Chg) (h : l.length ≤ k) : surv keep torn k (l.drop k) = [] := by
  rw [List.drop_eq_nil_of_le h, surv]

theorem flat_get : ∀ (l : List Chg) (k j : Nat) (c : Chg), l[k]? = some c → j < 5 → (l.flatMap Chg.cells)[k * 5 + j]? = c.cells[j]?
  | [], _, _, _, h, _ => by simp at h
  | x :: r, 0, j, c, h, hj => by
    simp only [List.getElem?_cons_zero, Option.some.injEq] at h
    subst h
    rw [List.flatMap_cons, Nat.zero_mul, Nat.zero_add, List.getElem?_append_left (by simpa [Chg.cells] using hj)]
  | x :: r, k + 1, j, c, h, hj => by
    have hl : x.cells.length = 5 := rfl
    rw [List.flatMap_cons, List.getElem?_append_right (by omega), hl, show (k + 1) * 5 + j - 5 = k * 5 + j by omega]
    exact flat_get r k j c (by simpa using h) hj

set_option maxRecDepth 100000 in
set_option maxHeartbeats 1600000 in
theorem survivors1_in (m : DM) (d : Dk) (keep torn : Int) (bd0 bk bt : Nat) (n : Nat) (w : World) (h : DiskAt w m d)
    (hbd : w.heap[bd0]? = some (.cells #[.pointer (some ⟨m.bd, 0, none⟩)] 46)) (hbk : w.heap[bk]? = some (.cells #[.int .i64 keep] 3)) (hbt : w.heap[bt]? = some (.cells #[.int .i64 torn] 3))
    (hl : d.loose.length ≤ 1000000000) (hbl : ∀ k, m.foot k → k ≠ bt) (h2 : bk ≠ bt) :
    SeqMod Fence.wide n Tryz.prog 131 #[.pointer (some ⟨bd0, 0, none⟩), .pointer (some ⟨bk, 0, none⟩), .pointer (some ⟨bt, 0, none⟩)] (fun c : Chg => #[.agg c.cells.toArray]) (fun k => k = bt) (fun k => k = m.bs) (surv keep torn 0 d.loose) w := by
  intro l J W hm hJ hY h0
  have h' := h.mod hm (fun _ _ => id)
  obtain ⟨hb, c0, c1, c2, c3, c4, c5, c6, hf⟩ := h'.facts
  have e0 := (hm.block bd0 (lt_heap hbd) id).trans hbd
  have e1 := (hm.block bk (lt_heap hbk) id).trans hbk
  have e2 := (hm.block bt (lt_heap hbt) id).trans hbt
  have d0 := cell_heap e0 0
  have q0 := lt_heap e0
  have hrow : ∃ a cap, m.vl = .slice a d.loose.length cap ∧ ∀ k c, d.loose[k]? = some c → ∃ g, a = some ⟨g, 0, none⟩ ∧ g < w.heap.size ∧ g ≠ bt ∧ g ≠ m.bs ∧ ∀ j, j < 5 → W.cell? ⟨g, k * 5 + j, none⟩ = c.cells[j]? := by
    obtain ⟨hlen, ⟨hv, hn0⟩ | ⟨g, cap, cur, hv, _, hg, hnc, hcm, hcs, htake⟩⟩ := h'.loose
    · refine ⟨none, 0, by rw [hv, hn0], fun k c hk => ?_⟩
      have := (List.getElem?_eq_some_iff.1 hk).1
      omega
    · refine ⟨_, cap, hv, fun k c hk => ⟨g, rfl, h.foot_lt (.inr (.inr (.inr (.inl (by rw [hv]; rfl))))), hbl g (.inr (.inr (.inr (.inl (by rw [hv]; rfl))))), fun e => ?_, fun j hj => ?_⟩⟩
      · obtain ⟨es, cl, hbs⟩ := h'.sure.heap
        rw [e, hbs] at hg
        cases hg
      · have hkl := (List.getElem?_eq_some_iff.1 hk).1
        rw [cell_heap hg, ← flat_get _ _ _ _ hk hj, ← htake, List.getElem?_take, if_pos (by omega)]
        simp
  have hnb : bk ≠ m.bs ∧ bt ≠ m.bs := by
    obtain ⟨es, cl, hbs⟩ := h'.sure.heap
    refine ⟨fun e => ?_, fun e => ?_⟩
    · rw [e, hbs] at e1; cases e1
    · rw [e, hbs] at e2; cases e2
  obtain ⟨a, cap, hv, hcell⟩ := hrow
  rw [hv] at c2
  have q1 := lt_heap hbk
  have q2 := lt_heap hbt
  have HC := Lib.hid hcell
  have HY := Lib.hid hY
  have HJ := Lib.hid hJ
  have H0 := Lib.hid h0
  have HE1 := Lib.hid e1
  have HE2 := Lib.hid e2
  have HSZ := Lib.hid hm.size
  have HNB := Lib.hid hnb
  clear hcell hY hJ h0 h' h hm hbd hbk hbt hbl e1 e2 hnb
  refine callsIn_of_wp Tryz.func131 rfl trivial ?_ rfl
  simp only [Tryz.ntmps131, List.size_toArray, List.length_cons, List.length_nil, Nat.reduceAdd, Nat.reduceSub, Array.replicate_succ, Array.replicate_zero, List.push_toArray, List.append_toArray, List.nil_append, List.cons_append]
  gi_wp2
  gi_loopw [13] (fun i wr => ∃ (k : Nat) (pre : List Chg) (tk : Int), k ≤ d.loose.length ∧ i = .int .i64 k ∧ Hid (J pre wr) ∧ Hid (pre ++ surv keep tk k (d.loose.drop k) = surv keep torn 0 d.loose) ∧ Hid (wr.heap[bt]? = some (.cells #[.int .i64 tk] 3)) ∧ Hid (Mod (fun k => k = bt ∨ k = m.bs ∨ w.heap.size ≤ k) W wr))
      (fun i _ => d.loose.length - (intOf i).toNat)
  case atStart => exact ⟨0, [], torn, by omega, rfl, H0, by simp [Hid], HE2, Mod.refl _ _⟩
  case round =>
    clear H0 HE2 c0 c1 c2 c3 c4 c5 c6 d0
    obtain ⟨k, pre, tk, hk, rfl, HJ1, HP, HT, HM⟩ := hrel
    by_cases hlt : k < d.loose.length
    · have hget : d.loose[k]? = some d.loose[k] := List.getElem?_eq_getElem hlt
      obtain ⟨g, rfl, g1, g2, g3, gc⟩ := HC.out k _ hget
      have hdrop : d.loose.drop k = d.loose[k] :: d.loose.drop (k + 1) := List.drop_eq_getElem_cons hlt
      generalize d.loose[k] = c at *
      have hcw : ∀ j, j < 5 → wr.cell? ⟨g, k * 5 + j, none⟩ = c.cells[j]? := fun j hj => by
        rw [World.cell?_of_block (w := W) (HM.out.block g (by have := HSZ.out; omega) (fun h => by omega))]
        exact gc j hj
      have KC : Hid (c.cells = [.int .i64 c.kind, .string ⟨c.name.toArray⟩, .string ⟨c.to.toArray⟩, .string ⟨c.s.toArray⟩, .int .i64 c.n]) := rfl
      have k0 : wr.cell? ⟨g, k * 5, none⟩ = some (.int .i64 c.kind) := hcw 0 (by omega)
      have k1 : wr.cell? ⟨g, k * 5 + 1, none⟩ = some (.string ⟨c.name.toArray⟩) := hcw 1 (by omega)
      have k2 : wr.cell? ⟨g, k * 5 + 2, none⟩ = some (.string ⟨c.to.toArray⟩) := hcw 2 (by omega)
      have k3 : wr.cell? ⟨g, k * 5 + 3, none⟩ = some (.string ⟨c.s.toArray⟩) := hcw 3 (by omega)
      have k4 : wr.cell? ⟨g, k * 5 + 4, none⟩ = some (.int .i64 c.n) := hcw 4 (by omega)
      have gw : g < wr.heap.size := by have := HM.out.size; have := HSZ.out; omega
      have bw : bk < wr.heap.size := by have := HM.out.size; have := HSZ.out; omega
      have tw := lt_heap HT.out
      have kb : wr.cell? ⟨bk, 0, none⟩ = some (.int .i64 keep) := by
        rw [World.cell?_of_block (w := W) (HM.out.block bk (by have := HSZ.out; omega) (fun h => by have := HNB.out; omega))]
        exact cell_heap HE1.out 0
      have kt : wr.cell? ⟨bt, 0, none⟩ = some (.int .i64 tk) := cell_heap HT.out 0
      have kf : wr.frozen? ⟨bt, 0, none⟩ = false := frozen_heap HT.out 0
      have hstep : surv keep tk k (c :: d.loose.drop (k + 1)) = _ := surv.eq_2 keep tk k c (d.loose.drop (k + 1))
      have hbit := and_one_i64 (keep / 2 ^ k)
      rw [hdrop] at HP
      clear hcw gc hget hdrop HC
      by_cases hkp : kept keep k = true
      · rw [if_pos hkp] at hstep
        have hkp2 : k < 62 ∧ keep / 2 ^ k % 2 = 1 := by simpa [kept] using hkp
        obtain ⟨hk62, hb1⟩ := hkp2
        rw [hb1] at hbit
        obtain ⟨fn, tmps, assign, body, hy, hR⟩ := HY.out pre c ⟨_, (by rw [← HP.out, hstep])⟩ (wr.alloc (.cells #[.int .i64 c.kind, .string ⟨c.name.toArray⟩, .string ⟨c.to.toArray⟩, .string ⟨c.s.toArray⟩, .int .i64 c.n] 155)) (HJ.out _ _ _ HJ1.out ((Mod.refl _ _).alloc _))
        rw [hstep] at HP
        have HR := Lib.hid hR
        rw [KC.out] at hy
        have HKP := Lib.hid hkp
        clear hkp hR hstep hb1
        have HSV : Hid (pre ++ [c] ++ surv keep tk (k + 1) (d.loose.drop (k + 1)) = surv keep torn 0 d.loose) := by
          show _ = _
          rw [← HP.out, List.append_assoc, List.singleton_append]
        gi_wp2
        refine ⟨fun h => (by cases h), HR.out.mono ?_⟩
        rintro e W3 ⟨rfl, hJ3, hm3⟩
        have HJ3 := Lib.hid hJ3; clear hJ3
        have HM3 := Lib.hid hm3; clear hm3
        gi_wp2
        go_roundw
        case rel =>
          have hma : Mod (fun k => k = m.bs ∨ w.heap.size ≤ k) wr W3 := ((Mod.alloc (Mod.refl _ wr) _).mono (noB_sub _ _)).trans HM3.out (fun _ _ h => h)
          refine ⟨k + 1, pre ++ [c], tk, by omega, by go_num, HJ3, HSV, ?_, HM.out.trans hma (fun _ _ h => .inr h)⟩
          exact (hma.block bt tw (fun h => by have := HNB.out; omega)).trans HT.out
        case measure => simp [intOf]; omega
      · rw [if_neg hkp] at hstep
        have htest : k < 62 → keep / 2 ^ k % 2 = 0 := fun h => by
          have : ¬ (keep / 2 ^ k % 2 = 1) := fun h2 => hkp (by simp [kept, h, h2])
          omega
        by_cases hz : min (max tk 0) c.s.length = 0
        · rw [if_pos hz] at hstep
          rw [hstep] at HP
          clear hstep hkp
          have hz' : (min (max tk 0) (c.s.length : Int) == 0) = true := by simpa using hz
          have HZ := Lib.hid hz; clear hz
          by_cases hk62 : k < 62
          · rw [htest hk62] at hbit
            clear htest
            gi_wp2
            go_roundw
            case rel =>
              have hma : Mod (fun k => k = bt) wr ((wr.setCell ⟨bt, 0, none⟩ (.int .i64 0)).alloc (.cells #[.int .i64 c.kind, .string ⟨c.name.toArray⟩, .string ⟨c.to.toArray⟩, .string ⟨c.s.toArray⟩, .int .i64 c.n] 155)) := Mod.alloc (Mod.setCell (Mod.refl (fun k => k = bt) wr) _ _ (fun _ => rfl)) _
              refine ⟨k + 1, pre, 0, by omega, by go_num, HJ.out _ _ _ HJ1.out hma, HP, ?_, HM.out.trans hma (fun _ _ h => .inl h)⟩
              show _ = _
              rw [heap_alloc_lt _ _ _ (by rw [size_setCell]; exact tw)]
              simp only [heap_setCell_same, HT.out, Option.map_some, setAt_cells, List.setIfInBounds_toArray, List.set_cons_zero]
            case measure => simp [intOf]; omega
          · clear htest hbit
            gi_wp2
            go_roundw
            case rel =>
              have hma : Mod (fun k => k = bt) wr ((wr.setCell ⟨bt, 0, none⟩ (.int .i64 0)).alloc (.cells #[.int .i64 c.kind, .string ⟨c.name.toArray⟩, .string ⟨c.to.toArray⟩, .string ⟨c.s.toArray⟩, .int .i64 c.n] 155)) := Mod.alloc (Mod.setCell (Mod.refl (fun k => k = bt) wr) _ _ (fun _ => rfl)) _
              refine ⟨k + 1, pre, 0, by omega, by go_num, HJ.out _ _ _ HJ1.out hma, HP, ?_, HM.out.trans hma (fun _ _ h => .inl h)⟩
              show _ = _
              rw [heap_alloc_lt _ _ _ (by rw [size_setCell]; exact tw)]
              simp only [heap_setCell_same, HT.out, Option.map_some, setAt_cells, List.setIfInBounds_toArray, List.set_cons_zero]
            case measure => simp [intOf]; omega
        · rw [if_neg hz] at hstep
          obtain ⟨q, hq⟩ : ∃ q : Nat, min (max tk 0) (c.s.length : Int) = q := Int.eq_ofNat_of_zero_le (by omega)
          have hq1 : q ≤ c.s.length := by omega
          have hq0 : ((q : Int) == 0) = false := by rw [← hq]; simpa using hz
          rw [hq, Int.toNat_natCast] at hstep
          rw [hstep] at HP
          clear hstep hkp hz
          have hm1 : Mod (fun k => k = bt) wr ((wr.setCell ⟨bt, 0, none⟩ (.int .i64 0)).alloc (.cells #[.int .i64 c.kind, .string ⟨c.name.toArray⟩, .string ⟨c.to.toArray⟩, .string ⟨(c.s.take q).toArray⟩, .int .i64 c.n] 155)) :=
            Mod.alloc (Mod.setCell (Mod.refl (fun k => k = bt) wr) _ _ (fun _ => rfl)) _
          obtain ⟨fn, tmps, assign, body, hy, hR⟩ := HY.out pre { c with s := c.s.take q } ⟨_, HP.out.symm⟩ _ (HJ.out _ _ _ HJ1.out hm1)
          have HM1 := Lib.hid hm1; clear hm1
          have HR := Lib.hid hR; clear hR
          have KC' : Hid (({ c with s := c.s.take q } : Chg).cells = [.int .i64 c.kind, .string ⟨c.name.toArray⟩, .string ⟨c.to.toArray⟩, .string ⟨(c.s.take q).toArray⟩, .int .i64 c.n]) := rfl
          rw [KC'.out] at hy
          have HQ := Lib.hid hq
          have HSV : Hid (pre ++ [{ c with s := c.s.take q }] ++ surv keep 0 (k + 1) (d.loose.drop (k + 1)) = surv keep torn 0 d.loose) := by
            show _ = _
            rw [← HP.out, List.append_assoc, List.singleton_append]
          by_cases hk62 : k < 62
          · rw [htest hk62] at hbit
            clear htest
            gi_wp2
            refine ⟨fun h => (by cases h), HR.out.mono ?_⟩
            rintro e W3 ⟨rfl, hJ3, hm3⟩
            have HJ3 := Lib.hid hJ3; clear hJ3
            have HM3 := Lib.hid hm3; clear hm3
            gi_wp2
            go_roundw
            case rel =>
              have hma : Mod (fun k => k = bt ∨ k = m.bs ∨ w.heap.size ≤ k) wr W3 := (HM1.out.mono (fun _ _ h => .inl h)).trans HM3.out (fun _ _ h => .inr h)
              refine ⟨k + 1, pre ++ [{ c with s := c.s.take q }], 0, by omega, by go_num, HJ3, HSV, ?_, HM.out.trans hma (fun _ _ h => h)⟩
              show _ = _
              rw [HM3.out.block bt (by rw [size_alloc, size_setCell]; omega) (fun h => by have := HNB.out; omega), heap_alloc_lt _ _ _ (by rw [size_setCell]; exact tw)]
              simp only [heap_setCell_same, HT.out, Option.map_some, setAt_cells, List.setIfInBounds_toArray, List.set_cons_zero]
            case measure => simp [intOf]; omega
          · clear htest hbit
            gi_wp2
            refine ⟨fun h => (by cases h), HR.out.mono ?_⟩
            rintro e W3 ⟨rfl, hJ3, hm3⟩
            have HJ3 := Lib.hid hJ3; clear hJ3
            have HM3 := Lib.hid hm3; clear hm3
            gi_wp2
            go_roundw
            case rel =>
              have hma : Mod (fun k => k = bt ∨ k = m.bs ∨ w.heap.size ≤ k) wr W3 := (HM1.out.mono (fun _ _ h => .inl h)).trans HM3.out (fun _ _ h => .inr h)
              refine ⟨k + 1, pre ++ [{ c with s := c.s.take q }], 0, by omega, by go_num, HJ3, HSV, ?_, HM.out.trans hma (fun _ _ h => h)⟩
              show _ = _
              rw [HM3.out.block bt (by rw [size_alloc, size_setCell]; omega) (fun h => by have := HNB.out; omega), heap_alloc_lt _ _ _ (by rw [size_setCell]; exact tw)]
              simp only [heap_setCell_same, HT.out, Option.map_some, setAt_cells, List.setIfInBounds_toArray, List.set_cons_zero]
            case measure => simp [intOf]; omega
    · have hk' : k = d.loose.length := by omega
      subst hk'
      have hP := HP.out
      rw [surv_end _ _ _ _ (Nat.le_refl _), List.append_nil] at hP
      have HP2 := Lib.hid hP; clear hP
      gi_wp2
      go_end0
      exact ⟨⟨_, rfl⟩, HP2.out ▸ HJ1.out⟩

end Go.Proofs.YtgofngilfdnakaaGreat

namespace Go.Proofs.YtgofngilfdnakaaGreat
open Go

theorem Files.size_del_add (F : Files) (k : Str) : (F.del k).size + (F.val k).length ≤ F.size := by
  unfold Files.val Files.get Files.del
  induction F with
  | nil => simp [Files.size]
  | cons y r ih =>
    rw [List.filter_cons, List.find?_cons]
    by_cases h : y.1 = k
    · have h' : (y.1 == k) = true := by simpa using h
      simp only [h', Bool.not_true, Bool.false_eq_true, if_false, Option.map_some, Option.getD_some, Files.size]
      have := Files.size_del_le r k
      unfold Files.del at this
      omega
    · have h' : (y.1 == k) = false := by simpa using h
      simp only [h', Bool.not_false, if_true, Files.size]
      omega
theorem Files.size_put (F : Files) (k v : Str) : (F.put k v).size + (F.val k).length ≤ F.size + v.length := by
  unfold Files.put
  rw [Files.size_ins]
  have := Files.size_del_add F k
  simp only
  omega
theorem Files.val_put_ne (F : Files) {k j : Str} (v : Str) (h : j ≠ k) : (F.put k v).val j = F.val j := by
  unfold Files.val
  rw [Files.get_put, if_neg h]
theorem Files.act_size (F : Files) (c : Chg) (h : c.kind = 2 → c.name ≠ c.to) : (F.act c).size ≤ F.size + c.s.length := by
  unfold Files.act
  split
  · have := Files.size_put F c.name (F.val c.name ++ c.s)
    rw [List.length_append] at this
    omega
  · split
    · have := Files.size_put F c.name c.s
      omega
    · split
      · rename_i h2
        split
        · have h1 := Files.size_del_add (F.put c.to (F.val c.name)) c.name
          rw [Files.val_put_ne F _ (h h2)] at h1
          have h3 := Files.size_put F c.to (F.val c.name)
          omega
        · omega
      · split
        · have := Files.size_del_le F c.name
          omega
        · split
          · split
            · have := Files.size_put F c.name ((F.val c.name).take (min c.n (F.val c.name).length).toNat)
              rw [List.length_take] at this
              omega
            · omega
          · omega
theorem Files.act_length (F : Files) (c : Chg) : (F.act c).length ≤ F.length + 1 := by
  unfold Files.act
  split
  · exact Files.put_length _ _ _
  · split
    · exact Files.put_length _ _ _
    · split
      · split
        · exact Nat.le_trans (Files.del_length _ _) (Files.put_length _ _ _)
        · omega
      · split
        · have := Files.del_length F c.name; omega
        · split
          · split
            · exact Files.put_length _ _ _
            · omega
          · omega

def sumS (l : List Chg) : Nat := (l.map (·.s.length)).sum
theorem sumS_cons (c : Chg) (l : List Chg) : sumS (c :: l) = c.s.length + sumS l := by simp [sumS]
theorem sumS_append (l l' : List Chg) : sumS (l ++ l') = sumS l + sumS l' := by simp [sumS]
theorem Files.acts_size : ∀ (l : List Chg) (F : Files), (∀ c ∈ l, c.kind = 2 → c.name ≠ c.to) → (l.foldl Files.act F).size ≤ F.size + sumS l
  | [], F, _ => by simp [sumS]
  | c :: l, F, h => by
    rw [List.foldl_cons, sumS_cons]
    have h1 := Files.acts_size l (F.act c) (fun d hd => h d (List.mem_cons_of_mem _ hd))
    have h2 := Files.act_size F c (h c List.mem_cons_self)
    omega
theorem Files.acts_length : ∀ (l : List Chg) (F : Files), (l.foldl Files.act F).length ≤ F.length + l.length
  | [], F => by simp
  | c :: l, F => by
    rw [List.foldl_cons, List.length_cons]
    have h1 := Files.acts_length l (F.act c)
    have h2 := Files.act_length F c
    omega
theorem surv_facts (keep : Int) (P : Chg → Prop) (hP : ∀ c q, P c → P { c with s := c.s.take q }) : ∀ (l : List Chg) (torn : Int) (i : Nat), (∀ c ∈ l, P c) →
    (∀ c ∈ surv keep torn i l, P c) ∧ (surv keep torn i l).length ≤ l.length ∧ sumS (surv keep torn i l) ≤ sumS l
  | [], _, _, _ => by simp [surv]
  | c :: r, torn, i, h => by
    have hr := fun t => surv_facts keep P hP r t (i + 1) (fun d hd => h d (List.mem_cons_of_mem _ hd))
    have hc := h c List.mem_cons_self
    unfold surv
    split
    · obtain ⟨h1, h2, h3⟩ := hr torn
      refine ⟨fun d hd => ?_, by simp only [List.length_cons]; omega, by rw [sumS_cons, sumS_cons]; omega⟩
      rcases List.mem_cons.1 hd with rfl | hd
      · exact hc
      · exact h1 d hd
    · split
      · obtain ⟨h1, h2, h3⟩ := hr 0
        exact ⟨h1, by simp only [List.length_cons]; omega, by rw [sumS_cons]; omega⟩
      · obtain ⟨h1, h2, h3⟩ := hr 0
        refine ⟨fun d hd => ?_, by simp only [List.length_cons]; omega, by rw [sumS_cons, sumS_cons]; simp only [List.length_take]; omega⟩
        rcases List.mem_cons.1 hd with rfl | hd
        · exact hP _ _ hc
        · exact h1 d hd

structure Dk.le (d : Dk) (n : Nat) : Prop where
  now_len : d.now.length ≤ n
  now_size : d.now.size ≤ n
  sure_len : d.sure.length + d.loose.length ≤ n
  sure_size : d.sure.size + sumS d.loose ≤ n
  moves : ∀ c ∈ d.loose, c.kind = 2 → c.name ≠ c.to
  changes : d.changes ≤ n

theorem Dk.le.mono {d : Dk} {n m : Nat} (h : d.le n) (hm : n ≤ m) : d.le m :=
  ⟨Nat.le_trans h.now_len hm, Nat.le_trans h.now_size hm, Nat.le_trans h.sure_len hm, Nat.le_trans h.sure_size hm, h.moves, Nat.le_trans h.changes hm⟩
theorem Dk.le.crash {d : Dk} {n : Nat} (h : d.le n) (keep torn : Int) : (d.crash keep torn).le n := by
  unfold Dk.crash
  split
  · exact h
  · obtain ⟨h1, h2, h3⟩ := surv_facts keep (fun c => c.kind = 2 → c.name ≠ c.to) (fun c q hc => hc) d.loose torn 0 h.moves
    have h4 := Files.acts_size (surv keep torn 0 d.loose) d.sure h1
    have h5 := Files.acts_length (surv keep torn 0 d.loose) d.sure
    have h6 := h.sure_size
    have h7 := h.sure_len
    refine ⟨by simp only; omega, by simp only; omega, by simp only [List.length_nil]; omega, by simp only [sumS, List.map_nil, List.sum_nil]; omega, fun c hc => (by cases hc), h.changes⟩
theorem Dk.le.sync {d : Dk} {n : Nat} (h : d.le n) : d.sync.2.le n := by
  unfold Dk.sync
  split
  · exact h
  · exact ⟨h.now_len, h.now_size, by simpa using h.now_len, by simpa [sumS] using h.now_size, fun c hc => (by cases hc), h.changes⟩
theorem Dk.le.done {d : Dk} {n : Nat} (h : d.le n) (c : Chg) (hc : c.kind = 2 → c.name ≠ c.to) : Dk.le { d with changes := d.changes + 1, now := d.now.act c, loose := d.loose ++ [c] } (n + c.s.length + 1) := by
  have h1 := Files.act_length d.now c
  have h2 := Files.act_size d.now c hc
  have h3 := h.now_len
  have h4 := h.now_size
  have h5 := h.sure_len
  have h6 := h.sure_size
  have h7 := h.changes
  refine ⟨by simp only; omega, by simp only; omega, by simp only [List.length_append, List.length_cons, List.length_nil]; omega, by simp only [sumS_append, sumS_cons]; simp [sumS] at *; omega, fun x hx => ?_, by simp only; omega⟩
  rcases List.mem_append.1 hx with hx | hx
  · exact h.moves x hx
  · rw [List.mem_singleton.1 hx]; exact hc
theorem Dk.le.commit {d : Dk} {n : Nat} (h : d.le n) (c : Chg) (hc : c.kind = 2 → c.name ≠ c.to) : (d.commit c).2.le (n + c.s.length + 1) := by
  unfold Dk.commit
  split
  · split
    · exact ((show Dk.le { d with falls := none } n from ⟨h.now_len, h.now_size, h.sure_len, h.sure_size, h.moves, h.changes⟩).crash _ _).mono (by omega)
    · exact h.done c hc
  · exact h.done c hc

end Go.Proofs.YtgofngilfdnakaaGreat

namespace Go.Proofs.YtgofngilfdnakaaGreat
open Go Go.RowKit
attribute [local go_sem] over_cell over_frozen lt_over le_over noB loudUpon ByteArray.mk_append_mk ByteArray.extract_mk Oper.semAt_some

set_option maxRecDepth 100000 in
set_option maxHeartbeats 400000 in
theorem survivors_calls (p : Value) (keep torn : Int) (w : World) (hp : ∃ a, p = .pointer a) :
    Calls Tryz.prog 86 #[p, .int .i64 keep, .int .i64 torn] w fun e w' => e = .returned (.func (.func 131) #[] #[.pointer (some ⟨w.heap.size, 0, none⟩), .pointer (some ⟨w.heap.size + 1, 0, none⟩), .pointer (some ⟨w.heap.size + 2, 0, none⟩)]) ∧
      w' = ((w.alloc (.cells #[p] 46)).alloc (.cells #[.int .i64 keep] 3)).alloc (.cells #[.int .i64 torn] 3) := by
  obtain ⟨a, rfl⟩ := hp
  go_enter Tryz.func86, Tryz.ntmps86
  go_wp2
  go_ret
  exact ⟨rfl, rfl⟩

set_option maxRecDepth 100000 in
set_option maxHeartbeats 1600000 in
theorem Crash_calls (p : Nat) (S : Nat → Prop) (d : Dk) (keep torn : Int) (N : Nat) (w : World) (h : Disk w p S d) (hN : d.le N) (hb : N ≤ 500000000) :
    Calls Tryz.prog 31 #[.pointer (some ⟨p, 0, none⟩), .int .i64 keep, .int .i64 torn] w fun e w' => e = .returned (.tuple #[]) ∧ Mod S w w' ∧ Disk w' p (Since S w w') (d.crash keep torn) := by
  have HD := Lib.hid (Dead_calls p S d (w.alloc (.cells #[.pointer (some ⟨p, 0, none⟩)] 46)) (h.mod ((Mod.refl NoB w).alloc _) (fun _ _ => id)))
  obtain ⟨m, rfl, hd, hS⟩ := h
  obtain ⟨hb, c0, c1, c2, c3, c4, c5, c6, hf⟩ := hd.facts
  unfold Dk.crash
  refine (callsIn_wide (n := 6)).1 (callsIn_of_wp_marks Tryz.func31 rfl trivial ?_ rfl)
  simp only [Tryz.ntmps31, List.size_toArray, List.length_cons, List.length_nil, Nat.reduceAdd, Nat.reduceSub, Array.replicate_succ, Array.replicate_zero, List.push_toArray, List.append_toArray, List.nil_append, List.cons_append]
  cases hdn : d.down with
  | true =>
    rw [hdn] at c6 HD
    have HH : Hid (Disk w m.bd S d) := ⟨m, rfl, hd, hS⟩
    simp only [if_true]
    clear hd hS hdn
    gi_wp2_with (refine ⟨trivial, ?_⟩; gi_at_call 39; refine (callsIn_wide.2 HD.out).mono ?_; rintro e w' ⟨rfl, rfl⟩)
    exact ⟨_, results_none rfl _ _ _, rfl, (Mod.refl _ _).alloc _, HH.out.mod ((Mod.refl NoB w).alloc _) (fun _ _ => id) |>.mono (fun _ _ h => .inl h)⟩
  | false =>
    rw [hdn] at c6 HD
    simp only [Bool.false_eq_true, if_false]
    have HH := Lib.hid hd
    have HS := Lib.hid hS
    clear hd hS
    have HDN := Lib.hid hdn; clear hdn
    have hsv := fun w1 => survivors_calls (.pointer (some ⟨m.bd, 0, none⟩)) keep torn w1 ⟨_, rfl⟩
    gi_wp2_with (first
      | (refine ⟨trivial, ?_⟩; gi_at_call 39; refine (callsIn_wide.2 HD.out).mono ?_; rintro e w' ⟨rfl, rfl⟩)
      | (refine ⟨trivial, ?_⟩; gi_at_call 86; refine (callsIn_wide.2 (hsv _)).mono ?_; rintro e w' ⟨rfl, rfl⟩))
    have hW : ∃ w0 b0 bd0 bk bt, w0 = (((w.alloc (.cells #[.pointer (some ⟨m.bd, 0, none⟩)] 46)).alloc (.cells #[.pointer (some ⟨m.bd, 0, none⟩)] 46)).alloc (.cells #[.int .i64 keep] 3)).alloc (.cells #[.int .i64 torn] 3) ∧ b0 = w.heap.size ∧ bd0 = w.heap.size + 1 ∧ bk = w.heap.size + 1 + 1 ∧ bt = w.heap.size + 1 + 2 := ⟨_, _, _, _, _, rfl, rfl, rfl, rfl, rfl⟩
    obtain ⟨w0, b0, bd0, bk, bt, e0, e1, e2, e3, e4⟩ := hW
    rw [← e0, ← e3, ← e4, ← e2, ← e1]
    have hm0 : Mod NoB w w0 := by rw [e0]; exact (((Mod.refl _ _).alloc _).alloc _).alloc _ |>.alloc _
    have hs0 : w0.heap.size = w.heap.size + 4 := by rw [e0]; simp only [size_alloc]
    have f0 : w0.heap[b0]? = some (.cells #[.pointer (some ⟨m.bd, 0, none⟩)] 46) := by
      rw [e0, e1, heap_alloc_lt _ _ _ (by simp only [size_alloc]; omega), heap_alloc_lt _ _ _ (by simp only [size_alloc]; omega), heap_alloc_lt _ _ _ (by simp only [size_alloc]; omega)]
      exact heap_alloc_new _ _
    have f1 : w0.heap[bd0]? = some (.cells #[.pointer (some ⟨m.bd, 0, none⟩)] 46) := by
      rw [e0, e2, heap_alloc_lt _ _ _ (by simp only [size_alloc]; omega), heap_alloc_lt _ _ _ (by simp only [size_alloc]; omega)]
      have := heap_alloc_new (w.alloc (.cells #[.pointer (some ⟨m.bd, 0, none⟩)] 46)) (.cells #[.pointer (some ⟨m.bd, 0, none⟩)] 46)
      rwa [size_alloc] at this
    have f2 : w0.heap[bk]? = some (.cells #[.int .i64 keep] 3) := by
      rw [e0, e3, heap_alloc_lt _ _ _ (by simp only [size_alloc]; omega)]
      have := heap_alloc_new ((w.alloc (.cells #[.pointer (some ⟨m.bd, 0, none⟩)] 46)).alloc (.cells #[.pointer (some ⟨m.bd, 0, none⟩)] 46)) (.cells #[.int .i64 keep] 3)
      rwa [size_alloc, size_alloc] at this
    have f3 : w0.heap[bt]? = some (.cells #[.int .i64 torn] 3) := by
      rw [e0, e4]
      have := heap_alloc_new (((w.alloc (.cells #[.pointer (some ⟨m.bd, 0, none⟩)] 46)).alloc (.cells #[.pointer (some ⟨m.bd, 0, none⟩)] 46)).alloc (.cells #[.int .i64 keep] 3)) (.cells #[.int .i64 torn] 3)
      rwa [size_alloc, size_alloc, size_alloc] at this
    have hd0 : DiskAt w0 m d := HH.out.mod hm0 (fun _ _ => id)
    have hfoot : ∀ k, m.foot k → k < w.heap.size := fun k hk => HH.out.foot_lt hk
    have hbs : m.bs < w.heap.size := hfoot _ (.inr (.inr (.inl rfl)))
    have hsm := survivors1_in m d keep torn bd0 bk bt (6 - 1) w0 hd0 f1 f2 f3 (by have := hN.sure_len; omega) (fun k hk => by have := hfoot k hk; omega) (by omega)
    have HM0 := Lib.hid hm0
    have HD0 := Lib.hid hd0
    have F0 := Lib.hid f0
    have HN := Lib.hid hN
    have HE : Hid (w0.heap.size = w.heap.size + 4 ∧ b0 = w.heap.size ∧ bt = w.heap.size + 1 + 2 ∧ m.bs < w.heap.size) := ⟨hs0, e1, e4, hbs⟩
    have hGB : bt < w0.heap.size ∧ m.bs < w0.heap.size ∧ b0 < w0.heap.size ∧ b0 ≠ bt ∧ b0 ≠ m.bs ∧ m.bd < w0.heap.size ∧ m.bd ≠ bt ∧ m.bs ≠ bt := by omega
    obtain ⟨hg1, hg2, hg3, hg4, hg5, hg6, hg7, hg8⟩ := hGB
    clear hsv f0 f1 f2 f3 hm0 hd0 e0 HD e1 e2 e3 e4 hs0
    refine wpIn_rangeFunc_mod (α := Chg) (n := 6) rfl (by omega) (gf := 131) (lb := #[.pointer (some ⟨bd0, 0, none⟩), .pointer (some ⟨bk, 0, none⟩), .pointer (some ⟨bt, 0, none⟩)]) rfl trivial (enters_of Tryz.func131 (by kernel_rfl) rfl)
      (encs := fun c : Chg => #[.agg c.cells.toArray]) (G := fun k => k = bt) (B := fun k => k = m.bs) (xs := surv keep torn 0 d.loose) hsm (fun _ => rfl) (fun k hk => by omega) (fun k hk => by omega)
      (fun pre W => Mod (fun k => k = bt ∨ k = m.bs ∨ (w0.heap.size ≤ k ∧ k < w0.heap.size + 2)) w0 W ∧ FilesAt W m.bs (pre.foldl Files.act d.sure)) ?stable ⟨Mod.refl _ _, HD0.out.sure⟩
      (fun pre c a' W => ∃ X, a' = ⟨#[.pointer (some ⟨m.bd, 0, none⟩), .int .i64 keep, .int .i64 torn, .pointer (some ⟨b0, 0, none⟩), undef, undef, .pointer (some ⟨X, 0, none⟩), .pointer (some ⟨m.bd, 0, none⟩), .bool false, .pointer (some ⟨m.bd, 0, none⟩), .int .i64 keep, .int .i64 torn, .func (.func 131) #[] #[.pointer (some ⟨bd0, 0, none⟩), .pointer (some ⟨bk, 0, none⟩), .pointer (some ⟨bt, 0, none⟩)], .agg c.cells.toArray, undef, undef, undef, undef, undef, undef, undef, undef, undef, undef, undef, undef, undef, undef, undef, undef, undef, undef, undef, undef], []⟩ ∧ w0.heap.size + 2 ≤ X ∧ W.heap[X]? = some (.cells c.cells.toArray 155) ∧ Mod (fun k => k = bt ∨ k = m.bs ∨ (w0.heap.size ≤ k ∧ k < w0.heap.size + 2)) w0 W ∧ FilesAt W m.bs (pre.foldl Files.act d.sure)) ?stable2 ?assign ?body ?done
    case stable =>
      rintro s X Y ⟨h1, h2⟩ hm
      exact ⟨h1.trans hm (fun k _ h => by rcases h with h | h; exact .inl h; exact .inr (.inr h)), h2.mod hm (fun h => by rcases h with h | h <;> omega)⟩
    case stable2 =>
      rintro pre c a' X Y ⟨Z, h1, h2, h3, h4, h5⟩ hm
      exact ⟨Z, h1, h2, (hm.block Z (lt_heap h3) (fun h => by omega)).trans h3, h4.trans hm (fun k _ h => .inr (.inr h)), h5.mod hm (fun h => by omega)⟩
    case assign =>
      rintro l pre c W ⟨h1, h2⟩ hsz
      have HI1 := Lib.hid h1
      have HI2 := Lib.hid h2
      clear h1 h2 hsm
      simp only [Chg.cells]
      gi_wp2
      refine ⟨(Mod.refl _ _).alloc _, W.heap.size, rfl, hsz, heap_alloc_new _ _, HI1.out.alloc _, HI2.out.mod ((Mod.refl NoB W).alloc _) id⟩
    case body =>
      rintro l pre c a' W ⟨post, hpost⟩ ⟨X, rfl, hX, h3, h4, h5⟩ hsz
      have HI1 := Lib.hid h4
      have HI2 := Lib.hid h5
      have bX := lt_heap h3
      have x0 := cell_heap h3 0
      have x1 := cell_heap h3 1
      have x2 := cell_heap h3 2
      have x3 := cell_heap h3 3
      have x4 := cell_heap h3 4
      have hF0 := (h4.block b0 hg3 (fun h => by omega)).trans F0.out
      have y0 := cell_heap hF0 0
      have y1 : W.cell? ⟨m.bd, 1, none⟩ = some (.map (some m.bs)) := by
        rw [World.cell?_of_block (w := w0) (h4.block m.bd hg6 (fun h => by have := HH.out.bd_ne; omega))]
        exact HD0.out.facts.2.2.1
      have bb := lt_heap hF0
      have bd := Nat.lt_of_lt_of_le hg6 h4.size
      have hfacts := surv_facts keep (fun c => c.ok ∧ (c.kind = 2 → c.name ≠ c.to)) (fun c q hc => ⟨⟨hc.1.1, hc.1.2.1, hc.1.2.2.1, by have := hc.1.2.2.2.1; simp only [List.length_take]; omega, hc.1.2.2.2.2⟩, hc.2⟩) d.loose torn 0 (fun c hc => ⟨HH.out.changesOk c hc, HN.out.moves c hc⟩)
      obtain ⟨hq1, hq2, hq3⟩ := hfacts
      rw [hpost] at hq1 hq2 hq3
      have hz1 := Files.acts_size pre d.sure (fun c hc => (hq1 c (List.mem_append_left _ hc)).2)
      have hz2 := Files.acts_length pre d.sure
      rw [sumS_append] at hq3
      rw [List.length_append] at hq2
      have hn1 := HN.out.sure_len
      have hn2 := HN.out.sure_size
      have hdo := fun y => do_calls m.bs _ c (over W NoB y) (h5.mod (over_mod _ _ _) id) (by omega) (by omega) (hq1 c (by simp)).1
      clear hpost hq1 hq2 hq3 hz1 hz2 hn1 hn2
      have HDO := Lib.hid hdo
      clear h3 h4 h5 hsm hF0 hdo
      simp only [Chg.cells, List.getElem?_toArray, List.getElem?_cons_zero, List.getElem?_cons_succ] at *
      gi_wp2
      refine wpIn_round_quiet_tail (C := fun w' => ∃ x, w' = over W NoB x) 5 (by kernel_rfl) (by kernel_rfl) (by kernel_rfl) (by rintro ⟨a, w, h⟩; exact absurd h.1 (by simp)) (Cls.drew _ _) ?_
      simp only [List.take_succ_cons, List.take_zero, List.drop_succ_cons, List.drop_zero]
      repeat (go_big_quiet_step (fail))
      refine wpQuiet_nil ?_
      rintro _ ⟨y, rfl⟩
      go_wp2_with fail
      refine (HDO.out y).mono ?_
      rintro e w' ⟨rfl, hm, hfi⟩
      go_wp2_with fail
      have hmW : Mod (fun k => k = m.bs) W w' := ((over_mod W NoB y).mono (noB_sub _ _)).trans hm (fun _ _ h => h)
      exact ⟨hmW, HI1.out.trans hmW (fun k _ h => .inr (.inl h))⟩
    case done =>
      rintro W ⟨h1, h2⟩ hsz hk
      have hF0 := (h1.block b0 hg3 (fun h => by omega)).trans F0.out
      have y0 := cell_heap hF0 0
      have bb := lt_heap hF0
      have bd := Nat.lt_of_lt_of_le hg6 h1.size
      have hcl := (h1.block m.bd hg6 (fun h => by have := HH.out.bd_ne; omega)).trans HD0.out.cells
      have z0 := cell_heap hcl 0
      have z1 := cell_heap hcl 1
      have z2 := cell_heap hcl 2
      have z6 := cell_heap hcl 6
      have zf := frozen_heap hcl
      have hn1 : ¬ b0 = m.bd := by have := HE.out; omega
      have hn2 : ¬ m.bd = b0 := fun e => hn1 e.symm
      obtain ⟨es, cl, hes, hcopy⟩ := h2.clone
      have HI1 := Lib.hid h1
      have HI2 := Lib.hid h2
      have HCO := Lib.hid hcopy
      have HK := Lib.hid hk
      have HCL := Lib.hid hcl
      clear h1 h2 hcopy hk hsm hcl hF0
      simp only [DM.cells, List.getElem?_toArray, List.getElem?_cons_zero, List.getElem?_cons_succ] at *
      gi_wp2
      refine wpIn_wide.2 ?_
      refine wp_region_staged [⟨0, 1, false⟩, ⟨0, 2, false⟩, ⟨0, 3, false⟩, ⟨0, 1, false⟩, ⟨0, 1, false⟩, ⟨0, 1, false⟩, ⟨0, 0, false⟩, ⟨0, 0, true⟩, ⟨1, 2, false⟩, ⟨1, 1, false⟩, ⟨1, 1, true⟩, ⟨2, 3, false⟩, ⟨2, 2, false⟩, ⟨2, 2, true⟩, ⟨3, 4, false⟩, ⟨3, 3, false⟩, ⟨3, 3, true⟩] 4 (clsOf ((fun W : World => [fun w' => ∃ _ : Unit, w' = W.drew, fun w' => ∃ _ : Unit, w' = W.drew.alloc (.map es cl), fun w' => ∃ _ : Unit, w' = (W.drew.alloc (.map es cl)).setCell ⟨m.bd, 0, none⟩ (.map (some W.heap.size)), fun w' => ∃ _ : Unit, w' = ((W.drew.alloc (.map es cl)).setCell ⟨m.bd, 0, none⟩ (.map (some W.heap.size))).setCell ⟨m.bd, 2, none⟩ (.slice none 0 0), fun w' => ∃ _ : Unit, w' = (((W.drew.alloc (.map es cl)).setCell ⟨m.bd, 0, none⟩ (.map (some W.heap.size))).setCell ⟨m.bd, 2, none⟩ (.slice none 0 0)).setCell ⟨m.bd, 6, none⟩ (.bool true)]) _)) (by kernel_rfl) (by kernel_rfl) (by first | exact Cls.drew _ _ | exact ⟨(), rfl⟩) ?_
      refine wpSt_two rfl rfl ⟨_, rfl, by simp⟩ ?_
      go_big_quiet_step ((go_at_call 88; refine (mapClone_calls m.bs es cl W.drew hes).mono ?_; rintro e w' ⟨rfl, rfl⟩; exact ⟨rfl, rfl⟩))
      refine wpQuiet_nil ?_
      go_big_quiet_step ((go_at_call 88; refine (mapClone_calls m.bs es cl W.drew hes).mono ?_; rintro e w' ⟨rfl, rfl⟩; exact ⟨rfl, rfl⟩))
      refine wpQuiet_nil ?_
      refine ⟨rfl, ?_⟩
      refine wpSt_three rfl rfl rfl ⟨_, rfl, by simp⟩ ?_
      go_big_quiet_step ((go_at_call 88; refine (mapClone_calls m.bs es cl W.drew hes).mono ?_; rintro e w' ⟨rfl, rfl⟩; exact ⟨rfl, rfl⟩))
      refine wpQuiet_nil ?_
      go_big_quiet_step ((go_at_call 88; refine (mapClone_calls m.bs es cl W.drew hes).mono ?_; rintro e w' ⟨rfl, rfl⟩; exact ⟨rfl, rfl⟩))
      refine wpQuiet_nil ?_
      refine ⟨rfl, ?_⟩
      go_big_quiet_step ((go_at_call 88; refine (mapClone_calls m.bs es cl W.drew hes).mono ?_; rintro e w' ⟨rfl, rfl⟩; exact ⟨rfl, rfl⟩))
      refine wpQuiet_nil ?_
      refine ⟨rfl, ?_⟩
      refine wpSt_four rfl rfl rfl rfl ⟨_, rfl, by simp⟩ ?_
      go_big_quiet_step ((go_at_call 88; refine (mapClone_calls m.bs es cl W.drew hes).mono ?_; rintro e w' ⟨rfl, rfl⟩; exact ⟨rfl, rfl⟩))
      refine wpQuiet_nil ?_
      go_big_quiet_step ((go_at_call 88; refine (mapClone_calls m.bs es cl W.drew hes).mono ?_; rintro e w' ⟨rfl, rfl⟩; exact ⟨rfl, rfl⟩))
      refine wpQuiet_nil ?_
      refine ⟨rfl, ?_⟩
      go_big_quiet_step ((go_at_call 88; refine (mapClone_calls m.bs es cl W.drew hes).mono ?_; rintro e w' ⟨rfl, rfl⟩; exact ⟨rfl, rfl⟩))
      refine wpQuiet_nil ?_
      refine ⟨rfl, ?_⟩
      go_big_quiet_step ((go_at_call 88; refine (mapClone_calls m.bs es cl W.drew hes).mono ?_; rintro e w' ⟨rfl, rfl⟩; exact ⟨rfl, rfl⟩))
      refine wpQuiet_nil ?_
      refine ⟨rfl, ?_⟩
      refine wpSt_two rfl rfl ⟨_, rfl, by simp⟩ ?_
      go_big_quiet_step ((go_at_call 88; refine (mapClone_calls m.bs es cl W.drew hes).mono ?_; rintro e w' ⟨rfl, rfl⟩; exact ⟨rfl, rfl⟩))
      refine wpQuiet_nil ?_
      go_big_quiet_step ((go_at_call 88; refine (mapClone_calls m.bs es cl W.drew hes).mono ?_; rintro e w' ⟨rfl, rfl⟩; exact ⟨rfl, rfl⟩))
      refine wpQuiet_nil ?_
      refine ⟨rfl, ?_⟩
      refine wpSt_two rfl rfl ⟨_, rfl, by simp⟩ ?_
      go_big_quiet_step ((go_at_call 88; refine (mapClone_calls m.bs es cl W.drew hes).mono ?_; rintro e w' ⟨rfl, rfl⟩; exact ⟨rfl, rfl⟩))
      refine wpQuiet_nil ?_
      go_big_quiet_step ((go_at_call 88; refine (mapClone_calls m.bs es cl W.drew hes).mono ?_; rintro e w' ⟨rfl, rfl⟩; exact ⟨rfl, rfl⟩))
      refine wpQuiet_nil ?_
      refine ⟨rfl, ?_⟩
      refine wpSt_two rfl rfl ⟨_, rfl, by simp⟩ ?_
      go_big_quiet_step ((go_at_call 88; refine (mapClone_calls m.bs es cl W.drew hes).mono ?_; rintro e w' ⟨rfl, rfl⟩; exact ⟨rfl, rfl⟩))
      refine wpQuiet_nil ?_
      go_big_quiet_step ((go_at_call 88; refine (mapClone_calls m.bs es cl W.drew hes).mono ?_; rintro e w' ⟨rfl, rfl⟩; exact ⟨rfl, rfl⟩))
      refine wpQuiet_nil ?_
      refine ⟨rfl, ?_⟩
      refine wpSt_same rfl ?_
      go_big_quiet_step ((go_at_call 88; refine (mapClone_calls m.bs es cl W.drew hes).mono ?_; rintro e w' ⟨rfl, rfl⟩; exact ⟨rfl, rfl⟩))
      refine wpQuiet_nil ?_
      apply wpSt_loud _ rfl rfl rfl
      · (rintro _ ⟨x, rfl⟩; unfold loudAt; go_simp; (go_at_call 88; refine (mapClone_calls m.bs es cl W.drew hes).mono ?_; rintro e w' ⟨rfl, rfl⟩; exact ⟨rfl, rfl⟩))
      simp only [Act.put, List.setIfInBounds_toArray, List.set_cons_succ, List.set_cons_zero]
      refine wpSt_two rfl rfl ⟨_, rfl, by simp⟩ ?_
      go_big_quiet_step ((go_at_call 88; refine (mapClone_calls m.bs es cl W.drew hes).mono ?_; rintro e w' ⟨rfl, rfl⟩; exact ⟨rfl, rfl⟩))
      refine wpQuiet_nil ?_
      go_big_quiet_step ((go_at_call 88; refine (mapClone_calls m.bs es cl W.drew hes).mono ?_; rintro e w' ⟨rfl, rfl⟩; exact ⟨rfl, rfl⟩))
      refine wpQuiet_nil ?_
      refine ⟨rfl, ?_⟩
      refine wpSt_same rfl ?_
      go_big_quiet_step ((go_at_call 88; refine (mapClone_calls m.bs es cl W.drew hes).mono ?_; rintro e w' ⟨rfl, rfl⟩; exact ⟨rfl, rfl⟩))
      refine wpQuiet_nil ?_
      refine wpSt_store rfl rfl rfl rfl ?_ ?_
      · (rintro _ ⟨x, rfl⟩; unfold loudAt; go_simp; first | done | exact ⟨_, rfl⟩)
      refine wpSt_two rfl rfl ⟨_, rfl, by simp⟩ ?_
      go_big_quiet_step ((go_at_call 88; refine (mapClone_calls m.bs es cl W.drew hes).mono ?_; rintro e w' ⟨rfl, rfl⟩; exact ⟨rfl, rfl⟩))
      refine wpQuiet_nil ?_
      go_big_quiet_step ((go_at_call 88; refine (mapClone_calls m.bs es cl W.drew hes).mono ?_; rintro e w' ⟨rfl, rfl⟩; exact ⟨rfl, rfl⟩))
      refine wpQuiet_nil ?_
      refine ⟨rfl, ?_⟩
      refine wpSt_same rfl ?_
      go_big_quiet_step ((go_at_call 88; refine (mapClone_calls m.bs es cl W.drew hes).mono ?_; rintro e w' ⟨rfl, rfl⟩; exact ⟨rfl, rfl⟩))
      refine wpQuiet_nil ?_
      refine wpSt_store rfl rfl rfl rfl ?_ ?_
      · (rintro _ ⟨x, rfl⟩; unfold loudAt; go_simp; first | done | exact ⟨_, rfl⟩)
      refine wpSt_two rfl rfl ⟨_, rfl, by simp⟩ ?_
      go_big_quiet_step ((go_at_call 88; refine (mapClone_calls m.bs es cl W.drew hes).mono ?_; rintro e w' ⟨rfl, rfl⟩; exact ⟨rfl, rfl⟩))
      refine wpQuiet_nil ?_
      go_big_quiet_step ((go_at_call 88; refine (mapClone_calls m.bs es cl W.drew hes).mono ?_; rintro e w' ⟨rfl, rfl⟩; exact ⟨rfl, rfl⟩))
      refine wpQuiet_nil ?_
      refine ⟨rfl, ?_⟩
      refine wpSt_same rfl ?_
      go_big_quiet_step ((go_at_call 88; refine (mapClone_calls m.bs es cl W.drew hes).mono ?_; rintro e w' ⟨rfl, rfl⟩; exact ⟨rfl, rfl⟩))
      refine wpQuiet_nil ?_
      refine wpSt_store rfl rfl rfl rfl ?_ ?_
      · (rintro _ ⟨x, rfl⟩; unfold loudAt; go_simp; first | done | exact ⟨_, rfl⟩)
      refine wpSt_nil ?_
      rintro _ ⟨_, rfl⟩
      have hbn1 : m.bd < W.heap.size := bd
      have hDne : m.bd ≠ w0.heap.size := by omega
      have hKx : ((((W.drew.alloc (.map es cl)).setCell ⟨m.bd, 0, none⟩ (.map (some W.heap.size))).setCell ⟨m.bd, 2, none⟩ (.slice none 0 0)).setCell ⟨m.bd, 6, none⟩ (.bool true)).heap[w0.heap.size]? = some (.deferred (some [])) := by
        rw [heap_setCell_ne _ _ _ _ _ hDne.symm, heap_setCell_ne _ _ _ _ _ hDne.symm, heap_setCell_ne _ _ _ _ _ hDne.symm, heap_alloc_lt _ _ _ (by rw [heap_drew]; omega), heap_drew]
        exact HK.out
      refine ⟨by simp, .inl ⟨_, _, rfl, run_takeDeferred hKx, ?_⟩⟩
      have hmF : Mod (fun k => k = m.bd ∨ k = w0.heap.size) W (((((W.drew.alloc (.map es cl)).setCell ⟨m.bd, 0, none⟩ (.map (some W.heap.size))).setCell ⟨m.bd, 2, none⟩ (.slice none 0 0)).setCell ⟨m.bd, 6, none⟩ (.bool true)).putObj w0.heap.size (.deferred none)) :=
        (Mod.setCell (Mod.setCell (Mod.setCell (Mod.alloc (Mod.drew (Mod.refl (fun k => k = m.bd ∨ k = w0.heap.size) W)) _) _ _ (fun _ => .inl rfl)) _ _ (fun _ => .inl rfl)) _ _ (fun _ => .inl rfl)).trans (mod_putObj (F := fun k => k = m.bd ∨ k = w0.heap.size) _ _ _ (.inr rfl)) (fun _ _ h => h)
      have hmW : Mod (fun k => k = m.bs) w W := (HM0.out.mono (noB_sub (fun k => k = m.bs) _)).trans (HI1.out.mono (G := fun k => k = m.bs ∨ w.heap.size ≤ k) (fun k _ h => by have := HE.out; omega)) (fun k hk h => by rcases h with h | h; exact h; omega)
      have hmA : Mod (fun k => k = m.bs ∨ k = m.bd) w _ := (hmW.mono (fun _ _ h => .inl h)).trans hmF (fun k hk h => by have := HE.out; omega)
      obtain ⟨u1, u2, u3, u4⟩ := HH.out.bd_ne
      have u5 : d.falls.isSome → m.vf.ownBlock ≠ some m.bs := fun hs e => by
        obtain ⟨es', cl', hb'⟩ := HH.out.sure.heap
        have hf := HH.out.falls
        cases ho : d.falls with
        | none => rw [ho] at hs; cases hs
        | some f =>
          rw [ho] at hf
          obtain ⟨g, c, cs, hv, _, _, hg, _⟩ := hf
          rw [hv] at e
          simp only [Value.ownBlock, Option.some.injEq] at e
          rw [e, hb'] at hg
          cases hg
      refine ⟨_, results_none rfl _ _ _, rfl, hmA.mono (fun k _ h => by rcases h with rfl | rfl; exact HS.out _ (.inr (.inr (.inl rfl))); exact HS.out _ (.inl rfl)), ⟨m.bd, W.heap.size, m.bs, .slice none 0 0, m.vf⟩, rfl, ⟨?_, ?_, HI2.out.mod hmF (fun h => by have := HE.out; omega), ⟨rfl, .inl ⟨rfl, rfl⟩⟩, HH.out.falls.mod hmA (fun hs k hk h => ?_), ?_, fun c hc => by cases hc⟩, ?_⟩
      · show _ = some (Obj.cells #[.map (some W.heap.size), .map (some m.bs), .slice none 0 0, .int .i64 d.room, m.vf, .int .i64 d.changes, .bool true] 142 (0, 0))
        rw [World.putObj_heap_other hDne]
        simp only [heap_setCell_same]
        rw [heap_alloc_lt _ _ _ (by rw [heap_drew]; exact hbn1), heap_drew, HCL.out]
        simp only [Option.map_some, setAt_cells, List.setIfInBounds_toArray, List.set_cons_zero, List.set_cons_succ]
      · refine HCO.out _ _ ?_
        rw [World.putObj_heap_other (by simp only; omega), heap_setCell_ne _ _ _ _ _ (by simp only; omega), heap_setCell_ne _ _ _ _ _ (by simp only; omega), heap_setCell_ne _ _ _ _ _ (by simp only; omega)]
        exact heap_alloc_new W.drew _
      · rcases h with rfl | rfl
        · exact u5 hs hk
        · exact u4 hs hk
      · simp only; omega
      · intro k hk
        rcases hk with rfl | rfl | rfl | hk | hk
        · exact .inl (HS.out _ (.inl rfl))
        · refine .inr ⟨?_, ?_⟩
          · simp only; have := HE.out; omega
          · have := hmF.size
            simp [World.putObj]
        · exact .inl (HS.out _ (.inr (.inr (.inl rfl))))
        · cases hk
        · exact .inl (HS.out _ (.inr (.inr (.inr (.inr hk)))))

end Go.Proofs.YtgofngilfdnakaaGreat

namespace Go.Proofs.YtgofngilfdnakaaGreat
open Go Go.RowKit
attribute [local go_sem] over_cell over_frozen lt_over le_over noB loudUpon ByteArray.mk_append_mk ByteArray.extract_mk

theorem clearFall (w : World) (g c : Nat) (cs : Array Value) (ty : TypeId) (h : w.heap[g]? = some (.cells cs 70 (0, 0))) (hs : 3 ≤ cs.size) :
    (Builtin.clear_ #[68] ty #[.slice (some ⟨g, 0, none⟩) 1 c]).run Tryz.prog w = .ok (.tuple #[]) (w.setCells g 0 [.int .i64 0, .int .i64 0, .int .i64 0]) := by
  have hv : ∀ w, (zeroValue 70).run Tryz.prog w = .ok (.agg #[.int .i64 0, .int .i64 0, .int .i64 0]) w := fun w => by kernel_rfl
  have hst := run_storeCells_cells (P := Tryz.prog) g 0 [.int .i64 0, .int .i64 0, .int .i64 0] 0 w (fun j hj => by rw [cell_heap h]; simp at hj; simp; omega) (fun j hj => frozen_heap h _) (by simp [Value.oneCell'])
  have hz : (Builtin.zeroCells (Value.agg #[.int .i64 0, .int .i64 0, .int .i64 0]).cells 1).toList = [.int .i64 0, .int .i64 0, .int .i64 0] := by simp [Builtin.zeroCells, Value.cells]; rfl
  simp [Builtin.clear_, run_underlying Tryz.underlying68, hv, hz, hst]

set_option maxRecDepth 100000 in
set_option maxHeartbeats 800000 in
theorem Delete_calls (g c : Nat) (cs : Array Value) (w : World) (h : w.heap[g]? = some (.cells cs 70 (0, 0))) (hs : 3 ≤ cs.size) (hc : 1 ≤ c) (hm : c ≤ maxLen) :
    Calls Tryz.prog 163 #[.slice (some ⟨g, 0, none⟩) 1 c, .int .i64 0, .int .i64 1] w fun e w' => e = .returned (.slice (some ⟨g, 0, none⟩) 0 c) ∧ Mod (fun k => k = g) w w' := by
  have hclr := fun x ty => clearFall (over w NoB x) g c cs ty (by rw [over_heap (lt_heap h) id]; exact h) hs
  have hg := lt_heap h
  obtain ⟨i, z, hi, _⟩ := infoFall
  rw [maxLen_eq] at hm
  by_cases c1 : c = 1
  · subst c1
    go_enter Tryz.func163, Tryz.ntmps163
    go_wp2
    refine wp_region_quiet_tail 6 (fun w' => ∃ x, w' = over _ (NoB) x) (by kernel_rfl) (by kernel_rfl) (Cls.drew _ _) ?_
    simp only [List.take_succ_cons, List.take_zero, List.drop_succ_cons, List.drop_zero]
    repeat (go_big_quiet_step (fail))
    refine wpQuiet_nil ?_
    rintro _ ⟨y, rfl⟩
    have hnone := fun (a : Addr) (n : Nat) => run_append_nothing (P := Tryz.prog) (over w NoB y) 68 68 68 _ i Tryz.underlying68 hi (some ⟨g, 0, none⟩) 0 1 (Nat.zero_le _) _ (Src.ofSlice (over w NoB y) Tryz.underlying68 a 0 n [] (by simp) (by simp) (by simp))
    refine wpList_append_run rfl _ _ _ rfl rfl rfl (hnone _ _) ?_
    clear hnone
    go_wp2
    go_ret
    refine ⟨rfl, ?_⟩
    simp only [World.setCells]
    (repeat (first | exact Mod.refl _ _ | refine Mod.drew ?_ | refine Mod.drewN _ ?_ | refine Mod.alloc ?_ _ | refine Mod.setCell ?_ _ _ (fun _ => rfl) | refine Mod.over' ?_ _ (fun _ _ h => h) | refine Mod.over' ?_ _ (fun _ _ h => h.elim)))
  · go_enter Tryz.func163, Tryz.ntmps163
    go_wp2
    refine wp_region_quiet_tail 6 (fun w' => ∃ x, w' = over _ (NoB) x) (by kernel_rfl) (by kernel_rfl) (Cls.drew _ _) ?_
    simp only [List.take_succ_cons, List.take_zero, List.drop_succ_cons, List.drop_zero]
    repeat (go_big_quiet_step (fail))
    refine wpQuiet_nil ?_
    rintro _ ⟨y, rfl⟩
    have hnone := fun (a : Addr) (n : Nat) => run_append_nothing (P := Tryz.prog) (over w NoB y) 68 68 68 _ i Tryz.underlying68 hi (some ⟨g, 0, none⟩) 0 c (Nat.zero_le _) _ (Src.ofSlice (over w NoB y) Tryz.underlying68 a 0 n [] (by simp) (by simp) (by simp))
    refine wpList_append_run rfl _ _ _ rfl rfl rfl (hnone _ _) ?_
    clear hnone
    go_wp2
    go_ret
    refine ⟨rfl, ?_⟩
    simp only [World.setCells]
    (repeat (first | exact Mod.refl _ _ | refine Mod.drew ?_ | refine Mod.drewN _ ?_ | refine Mod.alloc ?_ _ | refine Mod.setCell ?_ _ _ (fun _ => rfl) | refine Mod.over' ?_ _ (fun _ _ h => h) | refine Mod.over' ?_ _ (fun _ _ h => h.elim)))

theorem infoChange : ∃ i z, Tryz.prog.info? 155 = some i ∧ i.zero = some z ∧ i.size = 5 ∧ i.bytes = 64 ∧ z.cells.size = 5 := by
  obtain ⟨i, h1, h2, h3, h4⟩ := info_of (P := Tryz.prog) (t := 155) (z := .agg #[.int .i64 0, .string ⟨#[]⟩, .string ⟨#[]⟩, .string ⟨#[]⟩, .int .i64 0]) (n := 5) (b := 64) (by kernel_rfl)
  exact ⟨i, _, h1, h2, h3, h4, rfl⟩

theorem DiskAt.vf_ne {w : World} {m : DM} {d : Dk} (h : DiskAt w m d) (hs : d.falls.isSome) : m.vf.ownBlock ≠ some m.bn ∧ m.vf.ownBlock ≠ some m.bs := by
  have hf := h.falls
  cases ho : d.falls with
  | none => rw [ho] at hs; cases hs
  | some f =>
    rw [ho] at hf
    obtain ⟨g, c, cs, hv, _, _, hg, _⟩ := hf
    rw [hv]
    refine ⟨fun e => ?_, fun e => ?_⟩
    · obtain ⟨es, cl, hb⟩ := h.now.heap
      simp only [Value.ownBlock, Option.some.injEq] at e
      rw [e, hb] at hg
      cases hg
    · obtain ⟨es, cl, hb⟩ := h.sure.heap
      simp only [Value.ownBlock, Option.some.injEq] at e
      rw [e, hb] at hg
      cases hg
theorem DiskAt.vl_ne {w : World} {m : DM} {d : Dk} (h : DiskAt w m d) : m.vl.ownBlock ≠ some m.bn ∧ m.vl.ownBlock ≠ some m.bs ∧ (d.falls.isSome → ∀ k, m.vl.ownBlock = some k → m.vf.ownBlock ≠ some k) := by
  rcases h.loose.2 with ⟨hv, _⟩ | ⟨g, cap, cur, hv, _, hg, _⟩
  · rw [hv]
    exact ⟨fun e => (by cases e), fun e => (by cases e), fun _ k e => (by cases e)⟩
  · rw [hv]
    refine ⟨fun e => ?_, fun e => ?_, fun hs k e e2 => ?_⟩
    · obtain ⟨es, cl, hb⟩ := h.now.heap
      simp only [Value.ownBlock, Option.some.injEq] at e
      rw [e, hb] at hg
      cases hg
    · obtain ⟨es, cl, hb⟩ := h.sure.heap
      simp only [Value.ownBlock, Option.some.injEq] at e
      rw [e, hb] at hg
      cases hg
    · have hf := h.falls
      cases ho : d.falls with
      | none => rw [ho] at hs; cases hs
      | some f =>
        rw [ho] at hf
        obtain ⟨g', c', cs', hv', _, _, hg', _⟩ := hf
        rw [hv'] at e2
        simp only [Value.ownBlock, Option.some.injEq] at e e2
        rw [← e2] at e
        rw [e, hg'] at hg
        simp only [Option.some.injEq, Obj.cells.injEq] at hg
        exact absurd hg.2.1 (by decide)

theorem DiskAt.grow {w W W2 : World} {m : DM} {d : Dk} {c : Chg} {v' : Value} {row : Array Value} {ty : TypeId} (h : DiskAt w m d) (hm : Mod (fun k => k = m.bd ∨ k = m.bn) w W)
    (hcl : W.heap[m.bd]? = some (.cells (m.cells { d with changes := d.changes + 1 }) 142 (0, 0))) (hnow : FilesAt W m.bn (d.now.act c)) (hc : c.ok)
    (how : W2.ownsRow 0 155 5 v' (d.loose.length + 1) (d.loose.flatMap Chg.cells ++ c.cells)) (hgr : (W.drew.alloc (.cells row ty)).grownBy W2 m.vl.ownBlock) (hblk : v'.ownBlock = m.vl.ownBlock ∨ v'.ownBlock = some (W.heap.size + 1)) {S : Nat → Prop} (hS : ∀ k, m.foot k → S k) :
    Mod S w (W2.setCell ⟨m.bd, 2, none⟩ v') ∧ Disk (W2.setCell ⟨m.bd, 2, none⟩ v') m.bd (Since S w (W2.setCell ⟨m.bd, 2, none⟩ v')) { d with changes := d.changes + 1, now := d.now.act c, loose := d.loose ++ [c] } := by
  obtain ⟨u1, u2, u3, u4⟩ := h.bd_ne
  obtain ⟨x1, x2, x3⟩ := h.vl_ne
  have hbd := Nat.lt_of_lt_of_le (lt_heap h.cells) hm.size
  have hm2 : Mod (fun k => m.vl.ownBlock = some k ∨ k = m.bd) W (W2.setCell ⟨m.bd, 2, none⟩ v') := by
    refine Mod.setCell ?_ _ _ (fun _ => .inr rfl)
    exact (((Mod.refl (fun k => m.vl.ownBlock = some k ∨ k = m.bd) W).drew).alloc (.cells row ty)).grown hgr (fun k hk _ => .inl hk)
  have hm3 : Mod (fun k => k = m.bd ∨ k = m.bn ∨ m.vl.ownBlock = some k) w (W2.setCell ⟨m.bd, 2, none⟩ v') :=
    (hm.mono (fun k _ hk => by rcases hk with hk | hk; exact .inl hk; exact .inr (.inl hk))).trans hm2 (fun k _ hk => by rcases hk with hk | hk; exact .inr (.inr hk); exact .inl hk)
  have hsz : W2.heap.size = (W2.setCell ⟨m.bd, 2, none⟩ v').heap.size := by rw [size_setCell]
  refine ⟨hm3.mono (fun k _ hk => by rcases hk with rfl | rfl | hk; exact hS _ (.inl rfl); exact hS _ (.inr (.inl rfl)); exact hS _ (.inr (.inr (.inr (.inl hk))))), { m with vl := v' }, rfl, ⟨?_, ?_, ?_, ?_, ?_, h.apart, ?_⟩, ?_⟩
  · simp only
    rw [heap_setCell_same]
    have e1 : W2.heap[m.bd]? = W.heap[m.bd]? := by
      rw [hgr.block m.bd (by rw [size_alloc]; exact Nat.lt_of_lt_of_le hbd (Nat.le_succ _)) (fun e => u3 e.symm), heap_alloc_lt _ _ _ (by rw [heap_drew]; exact hbd), heap_drew]
    rw [e1, hcl]
    simp only [DM.cells, Option.map_some, setAt_cells, List.setIfInBounds_toArray, List.set_cons_zero, List.set_cons_succ]
  · exact hnow.mod hm2 (fun hk => by rcases hk with hk | hk; exact x1 hk; exact u1 hk.symm)
  · exact h.sure.mod hm3 (fun hk => by rcases hk with hk | hk | hk; exact u2 hk.symm; exact h.apart hk.symm; exact x2 hk)
  · have : (d.loose ++ [c]).flatMap Chg.cells = d.loose.flatMap Chg.cells ++ c.cells := by simp
    simp only
    rw [this, List.length_append]
    refine ownsRow_mod (G := fun k => k = m.bd) how (Mod.setCell (Mod.refl _ _) _ _ (fun _ => rfl)) (fun k hk e => ?_)
    rcases hblk with hb | hb
    · exact u3 (by rw [← hb, hk, e])
    · rw [hb] at hk
      simp only [Option.some.injEq] at hk
      omega
  · refine h.falls.mod hm3 (fun hs k hk e => ?_)
    rcases e with e | e | e
    · exact u4 hs (by rw [hk, e])
    · exact (h.vf_ne hs).1 (by rw [hk, e])
    · exact x3 hs k e hk
  · intro x hx
    rcases List.mem_append.1 hx with hx | hx
    · exact h.changesOk x hx
    · rw [List.mem_singleton.1 hx]; exact hc
  · intro k hk
    rcases hk with rfl | rfl | rfl | hk | hk
    · exact .inl (hS _ (.inl rfl))
    · exact .inl (hS _ (.inr (.inl rfl)))
    · exact .inl (hS _ (.inr (.inr (.inl rfl))))
    · simp only at hk
      rcases hblk with hb | hb
      · exact .inl (hS _ (.inr (.inr (.inr (.inl (by rw [← hb]; exact hk))))))
      · have h1 := (how.lt k hk).2
        rw [hb] at hk
        simp only [Option.some.injEq] at hk
        exact .inr ⟨by have := hm.size; omega, by rw [size_setCell]; exact h1⟩
    · exact .inl (hS _ (.inr (.inr (.inr (.inr hk)))))
set_option maxRecDepth 100000 in
set_option maxHeartbeats 1600000 in
theorem commit_calls (p : Nat) (S : Nat → Prop) (d : Dk) (c : Chg) (N : Nat) (w : World) (h : Disk w p S d) (hN : d.le N) (hb : N ≤ 400000000) (hc : c.ok) :
    Calls Tryz.prog 140 #[.pointer (some ⟨p, 0, none⟩), .agg #[.int .i64 c.kind, .string ⟨c.name.toArray⟩, .string ⟨c.to.toArray⟩, .string ⟨c.s.toArray⟩, .int .i64 c.n]] w fun e w' => e = .returned (.int .i64 (d.commit c).1) ∧ Mod S w w' ∧ Disk w' p (Since S w w') (d.commit c).2 := by
  obtain ⟨m, rfl, hd, hS⟩ := h
  have hfl := hd.falls
  by_cases hA : ∃ f, d.falls = some f ∧ f.pos = d.changes
  · obtain ⟨f, ho, hpos⟩ := hA
    have hres : d.commit c = (7, ({ d with falls := none } : Dk).crash f.keep f.torn) := by
      unfold Dk.commit
      simp only [ho, hpos, if_true]
    rw [hres]
    clear hres
    have hfl2 := hd.falls
    rw [ho] at hfl2
    obtain ⟨g, cap, cs, hv, hc1, hcm, hg, hcs, q0, q1, q2⟩ := hfl2
    obtain ⟨hb1, c0, c1, c2, c3, c4, c5, c6, hf⟩ := hd.facts
    rw [hv] at c4
    have hgl := lt_heap hg
    have k0 := (cell_heap hg 0).trans q0
    have k1 := (cell_heap hg 1).trans q1
    have k2 := (cell_heap hg 2).trans q2
    have HH := Lib.hid hd
    have HS := Lib.hid hS
    have HN := Lib.hid hN
    have HO := Lib.hid ho
    have hpos' : (f.pos == (d.changes : Int)) = true := by simpa using hpos
    clear hd hS hN ho hc hpos hfl
    go_enter Tryz.func140, Tryz.ntmps140
    go_wp2
    obtain ⟨W1, hW1⟩ : ∃ W1, w.alloc (.cells #[.int .i64 c.kind, .string ⟨c.name.toArray⟩, .string ⟨c.to.toArray⟩, .string ⟨c.s.toArray⟩, .int .i64 c.n] 155) = W1 := ⟨_, rfl⟩
    rw [hW1]
    have hm1 : Mod NoB w W1 := by rw [← hW1]; exact (Mod.refl _ _).alloc _
    have HM1 := Lib.hid hm1
    have KK : Hid (w.cell? ⟨g, 0, none⟩ = some (.int .i64 f.pos) ∧ w.cell? ⟨g, 1, none⟩ = some (.int .i64 f.keep) ∧ w.cell? ⟨g, 2, none⟩ = some (.int .i64 f.torn)) := ⟨k0, k1, k2⟩
    clear hm1 hW1 c0 c1 c2 c3 c4 c5 c6 hf k0 k1 k2
    go_loopw [12] (fun i wr => i = .int .i64 0 ∧ Hid (Mod NoB W1 wr)) (fun _ _ => 0)
    case atStart => exact ⟨rfl, Mod.refl _ _⟩
    case round =>
      obtain ⟨rfl, HMW⟩ := hrel
      have hmw := HM1.out.trans HMW.out (fun _ _ h => h)
      obtain ⟨hb2, c0, c1, c2, c3, c4, c5, c6, hf⟩ := (HH.out.mod hmw (fun _ _ => id)).facts
      rw [hv] at c4
      have hgw := Nat.lt_of_lt_of_le hgl hmw.size
      have hgW := (hmw.block g hgl id).trans hg
      have hcw := (HH.out.mod hmw (fun _ _ => id)).cells
      obtain ⟨k0, k1, k2⟩ := KK.out
      rw [← World.cell?_of_block (w := w) (hmw.block g hgl id)] at k0 k1 k2
      have HMW2 := Lib.hid hmw
      have HCW := Lib.hid hcw
      have HGW := Lib.hid hgW
      clear hmw hcw hgW
      go_wp2
      refine wp_region_quiet_all (fun w' => ∃ x, w' = over _ (NoB) x) (by kernel_rfl) (by kernel_rfl) (Cls.drew _ _) ?_
      repeat (go_big_quiet_step (fail))
      refine wpQuiet_nil ?_
      rintro _ ⟨y, rfl⟩
      go_wp2_with fail
      have hX : Mod NoB wr (over (wr.alloc (.cells #[.int .i64 f.pos, .int .i64 f.keep, .int .i64 f.torn] 70)) NoB y) := ((Mod.refl _ _).alloc _).trans (over_mod _ _ _) (fun _ _ h => h)
      have hgX := (hX.block g hgw id).trans HGW.out
      refine (Delete_calls g cap cs _ hgX (by omega) hc1 hcm).mono ?_
      rintro e W ⟨rfl, hmd⟩
      have hgbd : g ≠ m.bd := fun e => HH.out.bd_ne.2.2.2 (by rw [HO.out]; rfl) (by rw [hv, e]; rfl)
      have hclX := (hX.block m.bd hb2 id).trans HCW.out
      have hclW := (hmd.block m.bd (lt_heap hclX) (fun e => hgbd e.symm)).trans hclX
      have hfb : (over (wr.alloc (.cells #[.int .i64 f.pos, .int .i64 f.keep, .int .i64 f.torn] 70)) NoB y).heap[wr.heap.size]? = some (.cells #[.int .i64 f.pos, .int .i64 f.keep, .int .i64 f.torn] 70) := by
        rw [over_heap (by rw [size_alloc]; omega) id]; exact heap_alloc_new _ _
      have hfW := (hmd.block _ (lt_heap hfb) (fun e => by omega)).trans hfb
      have hne : ¬ m.bd = wr.heap.size := by omega
      have hne2 : ¬ wr.heap.size = m.bd := by omega
      have z4 := cell_heap hclW 4
      have zf := frozen_heap hclW
      have zb := lt_heap hclW
      have y1 := cell_heap hfW 1
      have y2 := cell_heap hfW 2
      simp only [DM.cells, List.getElem?_toArray, List.getElem?_cons_zero, List.getElem?_cons_succ] at z4 y1 y2
      have hw3 : Mod (fun k => k = g ∨ k = m.bd) w (W.setCell ⟨m.bd, 4, none⟩ (.slice (some ⟨g, 0, none⟩) 0 cap)) :=
        Mod.setCell (((HMW2.out.trans hX (fun _ _ h => h)).mono (noB_sub (fun k => k = g ∨ k = m.bd) _)).trans hmd (fun _ _ h => .inl h)) _ _ (fun _ => .inr rfl)
      have hg1 : g ≠ m.bn ∧ g ≠ m.bs := by
        have := HH.out.vf_ne (by rw [HO.out]; rfl)
        rw [hv] at this
        exact ⟨fun e => this.1 (by rw [e]; rfl), fun e => this.2 (by rw [e]; rfl)⟩
      have hg2 : ∀ k, m.vl.ownBlock = some k → k ≠ g := fun k hk e => by
        have := HH.out.vl_ne.2.2 (by rw [HO.out]; rfl) k hk
        rw [hv] at this
        exact this (by rw [e]; rfl)
      have hd3 : Disk (W.setCell ⟨m.bd, 4, none⟩ (.slice (some ⟨g, 0, none⟩) 0 cap)) m.bd S { d with falls := none } := by
        refine ⟨{ m with vf := .slice (some ⟨g, 0, none⟩) 0 cap }, rfl, ⟨?_, ?_, ?_, ?_, ?_, HH.out.apart, HH.out.changesOk⟩, ?_⟩
        · simp only [heap_setCell_same, hclW, DM.cells, Option.map_some, setAt_cells, List.setIfInBounds_toArray, List.set_cons_zero, List.set_cons_succ]
        · exact HH.out.now.mod hw3 (fun e => by rcases e with e | e; exact hg1.1 e.symm; exact HH.out.bd_ne.1 e.symm)
        · exact HH.out.sure.mod hw3 (fun e => by rcases e with e | e; exact hg1.2 e.symm; exact HH.out.bd_ne.2.1 e.symm)
        · exact ownsRow_mod HH.out.loose hw3 (fun k hk e => by rcases e with e | e; exact hg2 k hk e; exact HH.out.bd_ne.2.2.1 (by rw [hk, e]))
        · refine ⟨_, cap, rfl, fun k hk => ?_⟩
          simp only [Value.ownBlock, Option.some.injEq] at hk
          exact Nat.lt_of_lt_of_le (by omega) hw3.size
        · intro k hk
          refine HS.out k ?_
          rcases hk with hk | hk | hk | hk | hk
          · exact .inl hk
          · exact .inr (.inl hk)
          · exact .inr (.inr (.inl hk))
          · exact .inr (.inr (.inr (.inl hk)))
          · exact .inr (.inr (.inr (.inr (by rw [hv]; exact hk))))
      have hN3 : ({ d with falls := none } : Dk).le N := ⟨HN.out.now_len, HN.out.now_size, HN.out.sure_len, HN.out.sure_size, HN.out.moves, HN.out.changes⟩
      have HCR := Lib.hid (Crash_calls m.bd S { d with falls := none } f.keep f.torn N _ hd3 hN3 (by omega))
      have HW3 := Lib.hid hw3
      have HGN : Hid (S g) := HS.out g (.inr (.inr (.inr (.inr (by rw [hv]; rfl)))))
      clear hgX hX hmd hclX hclW hfb hfW hw3 hg1 hg2 hd3 hN3 c0 c1 c2 c3 c4 c5 c6 hf k0 k1 k2
      go_wp2_with fail
      refine HCR.out.mono ?_
      rintro e w' ⟨rfl, hmc, hdc⟩
      go_wp2_with fail
      go_ret
      refine ⟨rfl, (HW3.out.mono (fun k _ h => by rcases h with rfl | rfl; exact HGN.out; exact HS.out _ (.inl rfl))).trans hmc (fun _ _ h => h), hdc.mono (fun k _ h => ?_)⟩
      rcases h with h | ⟨h1, h2⟩
      · exact .inl h
      · exact .inr ⟨Nat.le_trans HW3.out.size h1, h2⟩
  · have hres : d.commit c = (0, { d with changes := d.changes + 1, now := d.now.act c, loose := d.loose ++ [c] }) := by
      unfold Dk.commit
      cases ho : d.falls with
      | none => rfl
      | some f =>
        simp only
        rw [if_neg (fun hp => hA ⟨f, ho, hp⟩)]
    rw [hres]
    have hlist : ∃ a L cap, m.vf = .slice a L cap ∧ L ≤ 1 ∧ (1 ≤ L → ∃ g cs pos keep torn, a = some ⟨g, 0, none⟩ ∧ g < w.heap.size ∧ (pos == (d.changes : Int)) = false ∧ w.cell? ⟨g, 0, none⟩ = some (.int .i64 pos) ∧ w.cell? ⟨g, 1, none⟩ = some (.int .i64 keep) ∧ w.cell? ⟨g, 2, none⟩ = some (.int .i64 torn) ∧ w.heap[g]? = some (.cells cs 70 (0, 0))) := by
      cases ho : d.falls with
      | none =>
        rw [ho] at hfl
        obtain ⟨a, cap, hv, _⟩ := hfl
        exact ⟨a, 0, cap, hv, by omega, fun h => by omega⟩
      | some f =>
        rw [ho] at hfl
        obtain ⟨g, cap, cs, hv, _, _, hg, hcs, q0, q1, q2⟩ := hfl
        exact ⟨_, 1, cap, hv, by omega, fun _ => ⟨g, cs, f.pos, f.keep, f.torn, rfl, lt_heap hg, by simpa using fun hp => hA ⟨f, ho, hp⟩, (cell_heap hg 0).trans q0, (cell_heap hg 1).trans q1, (cell_heap hg 2).trans q2, hg⟩⟩
    obtain ⟨a, L, cap, hv, hL, hcell⟩ := hlist
    obtain ⟨hb1, c0, c1, c2, c3, c4, c5, c6, hf⟩ := hd.facts
    rw [hv] at c4
    have HH := Lib.hid hd
    have HS := Lib.hid hS
    have HC := Lib.hid hcell
    have HN := Lib.hid hN
    have HCO := Lib.hid hc
    have hch := hN.changes
    clear hd hS hcell hres hA hfl hN hc
    go_enter Tryz.func140, Tryz.ntmps140
    go_wp2
    obtain ⟨W1, hW1⟩ : ∃ W1, w.alloc (.cells #[.int .i64 c.kind, .string ⟨c.name.toArray⟩, .string ⟨c.to.toArray⟩, .string ⟨c.s.toArray⟩, .int .i64 c.n] 155) = W1 := ⟨_, rfl⟩
    rw [hW1]
    have hm1 : Mod NoB w W1 := by rw [← hW1]; exact (Mod.refl _ _).alloc _
    have hbox : W1.heap[w.heap.size]? = some (.cells #[.int .i64 c.kind, .string ⟨c.name.toArray⟩, .string ⟨c.to.toArray⟩, .string ⟨c.s.toArray⟩, .int .i64 c.n] 155) := by rw [← hW1]; exact heap_alloc_new _ _
    have HM1 := Lib.hid hm1
    have HBOX := Lib.hid hbox
    clear hm1 hbox hW1 c0 c1 c2 c3 c4 c5 c6 hf
    go_loopw [12] (fun i wr => ∃ (k : Nat), k ≤ L ∧ i = .int .i64 k ∧ Hid (Mod NoB W1 wr)) (fun i _ => L - (intOf i).toNat)
    case atStart => exact ⟨0, by omega, rfl, Mod.refl _ _⟩
    case round =>
      obtain ⟨k, hk, rfl, HMW⟩ := hrel
      have hmw := HM1.out.trans HMW.out (fun _ _ h => h)
      obtain ⟨hb2, c0, c1, c2, c3, c4, c5, c6, hf⟩ := (HH.out.mod hmw (fun _ _ => id)).facts
      by_cases hlt : k < L
      · obtain rfl : k = 0 := by omega
        obtain ⟨g, cs, pos, keep, torn, rfl, hg, hpos, k0, k1, k2, hgb⟩ := HC.out (by omega)
        have hgw := Nat.lt_of_lt_of_le hg hmw.size
        rw [← World.cell?_of_block (w := w) (hmw.block g hg id)] at k0 k1 k2
        clear HC hmw
        go_wp2
        refine wp_region_quiet_all (fun w' => ∃ x, w' = over _ (NoB) x) (by kernel_rfl) (by kernel_rfl) (Cls.drew _ _) ?_
        repeat (go_big_quiet_step (fail))
        refine wpQuiet_nil ?_
        rintro _ ⟨y, rfl⟩
        go_wp2
        go_roundw
        case rel =>
          refine ⟨1, by omega, by go_num, ?_⟩
          exact ((HMW.out.alloc _).trans (over_mod _ _ _) (fun _ _ h => h))
        case measure => simp [intOf]; omega
      · have hbw := (HMW.out.block w.heap.size (lt_heap HBOX.out) id).trans HBOX.out
        have bb := lt_heap hbw
        have b0 := cell_heap hbw 0
        have b1 := cell_heap hbw 1
        have b2 := cell_heap hbw 2
        have b3 := cell_heap hbw 3
        have b4 := cell_heap hbw 4
        simp only [List.getElem?_toArray, List.getElem?_cons_zero, List.getElem?_cons_succ] at b0 b1 b2 b3 b4
        have hne : ¬ m.bd = w.heap.size := by omega
        have hne2 : ¬ w.heap.size = m.bd := by omega
        have hcw := (HH.out.mod hmw (fun _ _ => id)).cells
        have hdo := fun y => do_calls m.bn d.now c (over (wr.setCell ⟨m.bd, 5, none⟩ (.int .i64 (d.changes + 1))) NoB y) ((HH.out.now.mod hmw id).mod (((Mod.setCell (Mod.refl (fun k => k = m.bd) wr) _ _ (fun _ => rfl))).trans (over_mod _ NoB y) (noB_sub _ _)) (fun e => HH.out.bd_ne.1 e.symm)) (by have := HN.out.now_len; omega) (by have := HN.out.now_size; omega) HCO.out
        have HMW2 := Lib.hid hmw
        have HCW := Lib.hid hcw
        have HBW := Lib.hid hbw
        have HDO := Lib.hid hdo
        clear HC hmw hbw hcw hdo
        go_wp2
        refine wp_region_quiet_tail 5 (fun w' => ∃ x, w' = over _ (NoB) x) (by kernel_rfl) (by kernel_rfl) (Cls.drew _ _) ?_
        simp only [List.take_succ_cons, List.take_zero, List.drop_succ_cons, List.drop_zero]
        repeat (go_big_quiet_step (fail))
        refine wpQuiet_nil ?_
        rintro _ ⟨y, rfl⟩
        go_wp2_with fail
        refine (HDO.out y).mono ?_
        rintro e W ⟨rfl, hmd, hnow⟩
        have hX : Mod (fun k => k = m.bd) wr (over (wr.setCell ⟨m.bd, 5, none⟩ (.int .i64 (d.changes + 1))) NoB y) := (Mod.setCell (Mod.refl (fun k => k = m.bd) wr) _ _ (fun _ => rfl)).trans (over_mod _ NoB y) (noB_sub _ _)
        have hclX : (over (wr.setCell ⟨m.bd, 5, none⟩ (.int .i64 (d.changes + 1))) NoB y).heap[m.bd]? = some (.cells (m.cells { d with changes := d.changes + 1 }) 142 (0, 0)) := by
          rw [over_heap (by rw [size_setCell]; exact hb2) id, heap_setCell_same, HCW.out]
          simp only [DM.cells, Option.map_some, setAt_cells, List.setIfInBounds_toArray, List.set_cons_zero, List.set_cons_succ]
          rfl
        have hclW := (hmd.block m.bd (lt_heap hclX) (fun e => HH.out.bd_ne.1 e)).trans hclX
        have hwW : Mod (fun k => k = m.bd ∨ k = m.bn) w W := ((HMW2.out.mono (noB_sub (fun k => k = m.bd ∨ k = m.bn) _)).trans hX (fun _ _ h => .inl h)).trans hmd (fun _ _ h => .inr h)
        have hbn := HH.out.now.lt
        have hboxW : W.heap[w.heap.size]? = some (.cells #[.int .i64 c.kind, .string ⟨c.name.toArray⟩, .string ⟨c.to.toArray⟩, .string ⟨c.s.toArray⟩, .int .i64 c.n] 155) := by
          rw [hmd.block _ (Nat.lt_of_lt_of_le bb hX.size) (fun e => by omega), hX.block _ bb hne2]
          exact HBW.out
        obtain ⟨x1, x2, x3⟩ := HH.out.vl_ne
        have how0 : (W.drew.alloc (.cells #[.int .i64 c.kind, .string ⟨c.name.toArray⟩, .string ⟨c.to.toArray⟩, .string ⟨c.s.toArray⟩, .int .i64 c.n] 155)).ownsRow 0 155 5 m.vl d.loose.length (d.loose.flatMap Chg.cells) :=
          ownsRow_mod HH.out.loose ((hwW.drew).alloc _) (fun k hk e => by rcases e with rfl | rfl; exact HH.out.bd_ne.2.2.1 hk; exact x1 hk)
        obtain ⟨i, z, hi, hz, h5, h64, hzs⟩ := infoChange
        obtain ⟨v', W2, hrun, how, hgr, _, hblk⟩ := run_append_own_at (P := Tryz.prog) (W.drew.alloc (.cells #[.int .i64 c.kind, .string ⟨c.name.toArray⟩, .string ⟨c.to.toArray⟩, .string ⟨c.s.toArray⟩, .int .i64 c.n] 155)) 0 140 140 155 i z 5 64 Tryz.underlying140 hi hz h5 h64 hzs (by omega) _ _ _ how0
          ⟨W.heap.size, 0, none⟩ 1 1 c.cells rfl (fun j u hj => by rw [Addr.add_mid, Nat.zero_add, cell_heap (show (W.drew.alloc (.cells #[.int .i64 c.kind, .string ⟨c.name.toArray⟩, .string ⟨c.to.toArray⟩, .string ⟨c.s.toArray⟩, .int .i64 c.n] 155)).heap[W.heap.size]? = _ from heap_alloc_new W.drew _)]; simpa [Chg.cells] using hj) (by simp [Value.oneCell', Chg.cells]) (by have := HN.out.sure_len; rw [maxLen_eq]; omega) (by have := HN.out.sure_len; omega) (Nat.zero_le _)
        obtain ⟨g', cap', rfl⟩ := ownsRow_succ how
        have HFIN : Hid _ := HH.out.grow hwW hclW hnow HCO.out how hgr (by rw [size_alloc] at hblk; exact hblk) HS.out
        have z0 := cell_heap hclW 0
        have z2 := cell_heap hclW 2
        have zf := frozen_heap hclW
        have zb := lt_heap hclW
        have hclW2 : W2.heap[m.bd]? = some (.cells (m.cells { d with changes := d.changes + 1 }) 142 (0, 0)) := by
          rw [hgr.block m.bd (by rw [size_alloc]; exact Nat.lt_of_lt_of_le zb (Nat.le_succ _)) (fun e => HH.out.bd_ne.2.2.1 e.symm), heap_alloc_lt _ _ _ (by rw [heap_drew]; exact zb), heap_drew]
          exact hclW
        have v2 := cell_heap hclW2 2
        have vf := frozen_heap hclW2
        have vb := lt_heap hclW2
        have y0 := cell_heap hboxW 0
        have y1 := cell_heap hboxW 1
        have y2 := cell_heap hboxW 2
        have y3 := cell_heap hboxW 3
        have y4 := cell_heap hboxW 4
        simp only [DM.cells, List.getElem?_toArray, List.getElem?_cons_zero, List.getElem?_cons_succ] at z0 z2 v2 y0 y1 y2 y3 y4
        clear hclX hclW hclW2 hwW hboxW how0 how hgr hblk hX hmd hnow b0 b1 b2 b3 b4 c0 c1 c2 c3 c4 c5 c6 hf hi hz h5 h64 hzs
        go_wp2_with fail
        refine wp_region_staged [⟨0, 2, false⟩, ⟨0, 2, false⟩, ⟨0, 2, false⟩, ⟨0, 2, false⟩, ⟨0, 1, false⟩, ⟨0, 0, false⟩, ⟨0, 0, true⟩, ⟨1, 1, true⟩, ⟨2, 3, false⟩, ⟨2, 2, false⟩, ⟨2, 2, true⟩] 3 (clsOf ((fun W : World => [fun w' => ∃ _ : Unit, w' = W.drew, fun w' => ∃ _ : Unit, w' = W.drew.alloc (.cells #[.int .i64 c.kind, .string ⟨c.name.toArray⟩, .string ⟨c.to.toArray⟩, .string ⟨c.s.toArray⟩, .int .i64 c.n] 155), fun w' => ∃ _ : Unit, w' = W2, fun w' => ∃ _ : Unit, w' = W2.setCell ⟨m.bd, 2, none⟩ (.slice (some ⟨g', 0, none⟩) (d.loose.length + 1) cap')]) _)) (by kernel_rfl) (by kernel_rfl) (by first | exact Cls.drew _ _ | exact ⟨(), rfl⟩) ?_
        refine wpSt_three rfl rfl rfl ⟨_, rfl, by simp⟩ ?_
        go_big_quiet_step (fail)
        refine wpQuiet_nil ?_
        go_big_quiet_step (fail)
        refine wpQuiet_nil ?_
        refine ⟨rfl, ?_⟩
        go_big_quiet_step (fail)
        refine wpQuiet_nil ?_
        refine ⟨rfl, ?_⟩
        refine wpSt_three rfl rfl rfl ⟨_, rfl, by simp⟩ ?_
        go_big_quiet_step (fail)
        refine wpQuiet_nil ?_
        go_big_quiet_step (fail)
        refine wpQuiet_nil ?_
        refine ⟨rfl, ?_⟩
        go_big_quiet_step (fail)
        refine wpQuiet_nil ?_
        refine ⟨rfl, ?_⟩
        refine wpSt_three rfl rfl rfl ⟨_, rfl, by simp⟩ ?_
        go_big_quiet_step (fail)
        refine wpQuiet_nil ?_
        go_big_quiet_step (fail)
        refine wpQuiet_nil ?_
        refine ⟨rfl, ?_⟩
        go_big_quiet_step (fail)
        refine wpQuiet_nil ?_
        refine ⟨rfl, ?_⟩
        refine wpSt_three rfl rfl rfl ⟨_, rfl, by simp⟩ ?_
        go_big_quiet_step (fail)
        refine wpQuiet_nil ?_
        go_big_quiet_step (fail)
        refine wpQuiet_nil ?_
        refine ⟨rfl, ?_⟩
        go_big_quiet_step (fail)
        refine wpQuiet_nil ?_
        refine ⟨rfl, ?_⟩
        refine wpSt_two rfl rfl ⟨_, rfl, by simp⟩ ?_
        go_big_quiet_step (fail)
        refine wpQuiet_nil ?_
        go_big_quiet_step (fail)
        refine wpQuiet_nil ?_
        refine ⟨rfl, ?_⟩
        refine wpSt_same rfl ?_
        go_big_quiet_step (fail)
        refine wpQuiet_nil ?_
        apply wpSt_loud _ rfl rfl rfl
        · (rintro _ ⟨x, rfl⟩; unfold loudAt; go_simp; first | done | rfl | exact ⟨rfl, rfl⟩ | exact ⟨rfl, ⟨(), rfl⟩⟩)
        simp only [Act.put, List.setIfInBounds_toArray, List.set_cons_succ, List.set_cons_zero]
        apply wpSt_loud _ rfl rfl rfl
        · (rintro _ ⟨x, rfl⟩; exact loudAt_append _ _ _ rfl rfl rfl (by assumption) (by first | exact ⟨(), rfl⟩ | rfl))
        simp only [Act.put, List.setIfInBounds_toArray, List.set_cons_succ, List.set_cons_zero]
        refine wpSt_two rfl rfl ⟨_, rfl, by simp⟩ ?_
        go_big_quiet_step (fail)
        refine wpQuiet_nil ?_
        go_big_quiet_step (fail)
        refine wpQuiet_nil ?_
        refine ⟨rfl, ?_⟩
        refine wpSt_same rfl ?_
        go_big_quiet_step (fail)
        refine wpQuiet_nil ?_
        refine wpSt_store rfl rfl rfl rfl ?_ ?_
        · (rintro _ ⟨x, rfl⟩; unfold loudAt; go_simp; first | done | exact ⟨_, rfl⟩)
        refine wpSt_nil ?_
        rintro _ ⟨_, rfl⟩
        go_wp2
        go_ret
        exact ⟨rfl, HFIN.out⟩
structure Fit (d : Dk) (N : Nat) : Prop where
  le : d.le N
  most : N ≤ 400000000
  low : -9223372036854775808 ≤ d.room
  high : d.room ≤ 9223372036854775807

theorem commit_after {p : Nat} {S : Nat → Prop} {d : Dk} {c : Chg} {N : Nat} {w X : World} (h : Disk w p S d) (hm : Mod NoB w X) (hF : Fit d N) (hc : c.ok) :
    Calls Tryz.prog 140 #[.pointer (some ⟨p, 0, none⟩), .agg #[.int .i64 c.kind, .string ⟨c.name.toArray⟩, .string ⟨c.to.toArray⟩, .string ⟨c.s.toArray⟩, .int .i64 c.n]] X fun e w' => e = .returned (.int .i64 (d.commit c).1) ∧ Mod S w w' ∧ Disk w' p (Since S w w') (d.commit c).2 :=
  (commit_calls p S d c N X (h.mod hm (fun _ _ => id)) hF.le hF.most hc).mono fun _ _ ⟨he, h1, h2⟩ =>
    ⟨he, (hm.mono (noB_sub S _)).trans h1 (fun _ _ h => h), h2.mono (fun _ _ h => by rcases h with h | ⟨h3, h4⟩; exact .inl h; exact .inr ⟨Nat.le_trans hm.size h3, h4⟩)⟩

set_option maxRecDepth 100000 in
set_option maxHeartbeats 1600000 in
theorem Append_calls (p : Nat) (S : Nat → Prop) (d : Dk) (name s : Str) (N : Nat) (w : World) (h : Disk w p S d) (hF : Fit d N) (hn : name.length ≤ 1000000) (hs : s.length ≤ 1000000000) :
    Calls Tryz.prog 114 #[.pointer (some ⟨p, 0, none⟩), .string ⟨name.toArray⟩, .string ⟨s.toArray⟩] w fun e w' => e = .returned (.int .i64 (d.append name s).1) ∧ Mod S w w' ∧ Disk w' p (Since S w w') (d.append name s).2 := by
  have hm0 : Mod NoB w (w.alloc (.cells #[.string ⟨name.toArray⟩] 9)) := (Mod.refl _ _).alloc _
  have HMAY := Lib.hid (may_calls p S d false w.heap.size name [] 1 _ (h.mod hm0 (fun _ _ => id)) (heap_alloc_new _ _) (by simp) (by simpa using (by omega : name.length ≤ 140737488351232)))
  have HH := Lib.hid h
  have HF := Lib.hid hF
  clear hm0
  have HFIT := Lib.hid (fun X hX => fits_calls p S d s.length X (h.mod (w' := X) hX (fun (k : Nat) _ => (id : ¬ NoB k))) (by have := hF.le.now_size; have := hF.most; omega) hF.low hF.high)
  clear h hF
  unfold Dk.append
  by_cases h0 : d.may false [name] = 0
  · rw [if_neg (by simpa using h0)]
    rw [h0] at HMAY
    cases hfit : d.fits s.length with
    | false =>
      rw [hfit] at HFIT
      simp only [Bool.not_false, if_true]
      clear h0 hfit
      go_enter Tryz.func114, Tryz.ntmps114
      go_wp2_with fail
      refine HMAY.out.mono ?_
      rintro e w' ⟨rfl, hm⟩
      obtain ⟨y1, rfl⟩ := hm.over
      have hmz : Mod NoB w (over (w.alloc (.cells #[.string ⟨name.toArray⟩] 9)) NoB y1) := ((Mod.refl _ _).alloc _).trans (over_mod _ _ _) (fun _ _ h => h)
      go_wp2_with fail
      refine (HFIT.out _ hmz).mono ?_
      rintro e w' ⟨rfl, hm2⟩
      go_wp2_with fail
      go_ret
      have hmy := hmz.trans hm2 (fun _ _ h => h)
      exact ⟨rfl, hmy.mono (noB_sub _ _), (HH.out.mod hmy (fun _ _ => id)).mono (fun _ _ h => .inl h)⟩
    | true =>
      rw [hfit] at HFIT
      simp only [Bool.not_true, Bool.false_eq_true, if_false]
      clear h0 hfit
      have HCM := Lib.hid (fun X hX => commit_after (c := ⟨0, name, [], s, 0⟩) (X := X) HH.out hX HF.out (by refine ⟨?_, ?_, ?_, ?_, ?_, ?_⟩ <;> first | (simp; done) | (simp only; omega)))
      go_enter Tryz.func114, Tryz.ntmps114
      go_wp2_with fail
      refine HMAY.out.mono ?_
      rintro e w' ⟨rfl, hm⟩
      obtain ⟨y1, rfl⟩ := hm.over
      have hmz : Mod NoB w (over (w.alloc (.cells #[.string ⟨name.toArray⟩] 9)) NoB y1) := ((Mod.refl _ _).alloc _).trans (over_mod _ _ _) (fun _ _ h => h)
      go_wp2_with fail
      refine (HFIT.out _ hmz).mono ?_
      rintro e w' ⟨rfl, hm2⟩
      go_wp2_with fail
      refine (HCM.out _ (hmz.trans hm2 (fun _ _ h => h))).mono ?_
      rintro e w3 ⟨rfl, hr⟩
      go_wp2_with fail
      go_ret
      exact ⟨rfl, hr⟩
  · rw [if_pos h0]
    have h0' : (d.may false [name] != 0) = true := by simpa using h0
    have H0 := Lib.hid h0; clear h0
    go_enter Tryz.func114, Tryz.ntmps114
    go_wp2_with fail
    refine HMAY.out.mono ?_
    rintro e w' ⟨rfl, hm⟩
    obtain ⟨y1, rfl⟩ := hm.over
    go_wp2_with fail
    go_ret
    have hmz : Mod NoB w (over (w.alloc (.cells #[.string ⟨name.toArray⟩] 9)) NoB y1) := ((Mod.refl _ _).alloc _).trans (over_mod _ _ _) (fun _ _ h => h)
    exact ⟨rfl, hmz.mono (noB_sub _ _), (HH.out.mod hmz (fun _ _ => id)).mono (fun _ _ h => .inl h)⟩

set_option maxRecDepth 100000 in
set_option maxHeartbeats 1600000 in
theorem Write_calls (p : Nat) (S : Nat → Prop) (d : Dk) (name s : Str) (N : Nat) (w : World) (h : Disk w p S d) (hF : Fit d N) (hn : name.length ≤ 1000000) (hs : s.length ≤ 1000000000) :
    Calls Tryz.prog 129 #[.pointer (some ⟨p, 0, none⟩), .string ⟨name.toArray⟩, .string ⟨s.toArray⟩] w fun e w' => e = .returned (.int .i64 (d.write name s).1) ∧ Mod S w w' ∧ Disk w' p (Since S w w') (d.write name s).2 := by
  have hm0 : Mod NoB w (w.alloc (.cells #[.string ⟨name.toArray⟩] 9)) := (Mod.refl _ _).alloc _
  have HMAY := Lib.hid (may_calls p S d false w.heap.size name [] 1 _ (h.mod hm0 (fun _ _ => id)) (heap_alloc_new _ _) (by simp) (by simpa using (by omega : name.length ≤ 140737488351232)))
  have HH := Lib.hid h
  have HF := Lib.hid hF
  clear hm0
  have HFIT := Lib.hid (fun X hX => fits_calls p S d (s.length - (d.now.val name).length) X (h.mod (w' := X) hX (fun (k : Nat) _ => (id : ¬ NoB k))) (by have := hF.le.now_size; have := hF.most; omega) hF.low hF.high)
  obtain ⟨m, rfl, hd, hS⟩ := h
  obtain ⟨hb, c0, c1, c2, c3, c4, c5, c6, hf⟩ := hd.facts
  have hlook : ∀ x, (Instr.lookup 139 (.map (some m.bn)) (.string ⟨name.toArray⟩) false).run Tryz.prog (over (w.alloc (.cells #[.string ⟨name.toArray⟩] 9)) NoB x) = .ok (.string ⟨(d.now.val name).toArray⟩) (over (w.alloc (.cells #[.string ⟨name.toArray⟩] 9)) NoB x) :=
    fun x => ((hd.now.mod ((Mod.refl NoB w).alloc _) id).mod (over_mod _ NoB x) id).look1 name (by rw [maxLen_eq]; omega)
  have hvl : (d.now.val name).length ≤ 400000000 := by
    have := d.now.val_le name
    have := HF.out.le.now_size
    have := HF.out.most
    omega
  clear hF hd hS
  unfold Dk.write
  by_cases h0 : d.may false [name] = 0
  · rw [if_neg (by simpa using h0)]
    rw [h0] at HMAY
    cases hfit : d.fits (s.length - (d.now.val name).length) with
    | false =>
      rw [hfit] at HFIT
      simp only [Bool.not_false, if_true]
      clear h0 hfit
      generalize d.now.val name = u at *
      go_enter Tryz.func129, Tryz.ntmps129
      go_wp2_with fail
      refine HMAY.out.mono ?_
      rintro e w' ⟨rfl, hm⟩
      obtain ⟨y1, rfl⟩ := hm.over
      have hmz : Mod NoB w (over (w.alloc (.cells #[.string ⟨name.toArray⟩] 9)) NoB y1) := ((Mod.refl _ _).alloc _).trans (over_mod _ _ _) (fun _ _ h => h)
      go_wp2_with fail
      refine (HFIT.out _ hmz).mono ?_
      rintro e w' ⟨rfl, hm2⟩
      go_wp2_with fail
      go_ret
      have hmy := hmz.trans hm2 (fun _ _ h => h)
      exact ⟨rfl, hmy.mono (noB_sub _ _), (HH.out.mod hmy (fun _ _ => id)).mono (fun _ _ h => .inl h)⟩
    | true =>
      rw [hfit] at HFIT
      simp only [Bool.not_true, Bool.false_eq_true, if_false]
      clear h0 hfit
      have HCM := Lib.hid (fun X hX => commit_after (c := ⟨1, name, [], s, 0⟩) (X := X) HH.out hX HF.out (by refine ⟨?_, ?_, ?_, ?_, ?_, ?_⟩ <;> first | (simp; done) | (simp only; omega)))
      generalize d.now.val name = u at *
      go_enter Tryz.func129, Tryz.ntmps129
      go_wp2_with fail
      refine HMAY.out.mono ?_
      rintro e w' ⟨rfl, hm⟩
      obtain ⟨y1, rfl⟩ := hm.over
      have hmz : Mod NoB w (over (w.alloc (.cells #[.string ⟨name.toArray⟩] 9)) NoB y1) := ((Mod.refl _ _).alloc _).trans (over_mod _ _ _) (fun _ _ h => h)
      go_wp2_with fail
      refine (HFIT.out _ hmz).mono ?_
      rintro e w' ⟨rfl, hm2⟩
      go_wp2_with fail
      refine (HCM.out _ (hmz.trans hm2 (fun _ _ h => h))).mono ?_
      rintro e w3 ⟨rfl, hr⟩
      go_wp2_with fail
      go_ret
      exact ⟨rfl, hr⟩
  · rw [if_pos h0]
    have h0' : (d.may false [name] != 0) = true := by simpa using h0
    have H0 := Lib.hid h0; clear h0
    go_enter Tryz.func129, Tryz.ntmps129
    go_wp2_with fail
    refine HMAY.out.mono ?_
    rintro e w' ⟨rfl, hm⟩
    obtain ⟨y1, rfl⟩ := hm.over
    go_wp2_with fail
    go_ret
    have hmz : Mod NoB w (over (w.alloc (.cells #[.string ⟨name.toArray⟩] 9)) NoB y1) := ((Mod.refl _ _).alloc _).trans (over_mod _ _ _) (fun _ _ h => h)
    exact ⟨rfl, hmz.mono (noB_sub _ _), (HH.out.mod hmz (fun _ _ => id)).mono (fun _ _ h => .inl h)⟩

set_option maxRecDepth 100000 in
set_option maxHeartbeats 1600000 in
theorem Remove_calls (p : Nat) (S : Nat → Prop) (d : Dk) (name : Str) (N : Nat) (w : World) (h : Disk w p S d) (hF : Fit d N) (hn : name.length ≤ 1000000)  :
    Calls Tryz.prog 100 #[.pointer (some ⟨p, 0, none⟩), .string ⟨name.toArray⟩] w fun e w' => e = .returned (.int .i64 (d.remove name).1) ∧ Mod S w w' ∧ Disk w' p (Since S w w') (d.remove name).2 := by
  have hm0 : Mod NoB w (w.alloc (.cells #[.string ⟨name.toArray⟩] 9)) := (Mod.refl _ _).alloc _
  have HMAY := Lib.hid (may_calls p S d true w.heap.size name [] 1 _ (h.mod hm0 (fun _ _ => id)) (heap_alloc_new _ _) (by simp) (by simpa using (by omega : name.length ≤ 140737488351232)))
  have HH := Lib.hid h
  have HF := Lib.hid hF
  clear hm0
  clear h hF
  unfold Dk.remove
  by_cases h0 : d.may true [name] = 0
  · rw [if_neg (by simpa using h0)]
    rw [h0] at HMAY
    clear h0
    have HCM := Lib.hid (fun X hX => commit_after (c := ⟨3, name, [], [], 0⟩) (X := X) HH.out hX HF.out (by refine ⟨?_, ?_, ?_, ?_, ?_, ?_⟩ <;> first | (simp; done) | (simp only; omega)))
    go_enter Tryz.func100, Tryz.ntmps100
    go_wp2_with fail
    refine HMAY.out.mono ?_
    rintro e w' ⟨rfl, hm⟩
    obtain ⟨y1, rfl⟩ := hm.over
    have hmz : Mod NoB w (over (w.alloc (.cells #[.string ⟨name.toArray⟩] 9)) NoB y1) := ((Mod.refl _ _).alloc _).trans (over_mod _ _ _) (fun _ _ h => h)
    go_wp2_with fail
    refine (HCM.out _ hmz).mono ?_
    rintro e w3 ⟨rfl, hr⟩
    go_wp2_with fail
    go_ret
    exact ⟨rfl, hr⟩
  · rw [if_pos h0]
    have h0' : (d.may true [name] != 0) = true := by simpa using h0
    have H0 := Lib.hid h0; clear h0
    go_enter Tryz.func100, Tryz.ntmps100
    go_wp2_with fail
    refine HMAY.out.mono ?_
    rintro e w' ⟨rfl, hm⟩
    obtain ⟨y1, rfl⟩ := hm.over
    go_wp2_with fail
    go_ret
    have hmz : Mod NoB w (over (w.alloc (.cells #[.string ⟨name.toArray⟩] 9)) NoB y1) := ((Mod.refl _ _).alloc _).trans (over_mod _ _ _) (fun _ _ h => h)
    exact ⟨rfl, hmz.mono (noB_sub _ _), (HH.out.mod hmz (fun _ _ => id)).mono (fun _ _ h => .inl h)⟩

set_option maxRecDepth 100000 in
set_option maxHeartbeats 1600000 in
theorem Truncate_calls (p : Nat) (S : Nat → Prop) (d : Dk) (name : Str) (n : Int) (N : Nat) (w : World) (h : Disk w p S d) (hF : Fit d N) (hn : name.length ≤ 1000000)  :
    Calls Tryz.prog 103 #[.pointer (some ⟨p, 0, none⟩), .string ⟨name.toArray⟩, .int .i64 n] w fun e w' => e = .returned (.int .i64 (d.truncate name n).1) ∧ Mod S w w' ∧ Disk w' p (Since S w w') (d.truncate name n).2 := by
  have hm0 : Mod NoB w (w.alloc (.cells #[.string ⟨name.toArray⟩] 9)) := (Mod.refl _ _).alloc _
  have HMAY := Lib.hid (may_calls p S d true w.heap.size name [] 1 _ (h.mod hm0 (fun _ _ => id)) (heap_alloc_new _ _) (by simp) (by simpa using (by omega : name.length ≤ 140737488351232)))
  have HH := Lib.hid h
  have HF := Lib.hid hF
  clear hm0
  obtain ⟨m, rfl, hd, hS⟩ := h
  obtain ⟨hb, c0, c1, c2, c3, c4, c5, c6, hf⟩ := hd.facts
  have hlook : ∀ x, (Instr.lookup 139 (.map (some m.bn)) (.string ⟨name.toArray⟩) false).run Tryz.prog (over (w.alloc (.cells #[.string ⟨name.toArray⟩] 9)) NoB x) = .ok (.string ⟨(d.now.val name).toArray⟩) (over (w.alloc (.cells #[.string ⟨name.toArray⟩] 9)) NoB x) :=
    fun x => ((hd.now.mod ((Mod.refl NoB w).alloc _) id).mod (over_mod _ NoB x) id).look1 name (by rw [maxLen_eq]; omega)
  have hvl : (d.now.val name).length ≤ 400000000 := by
    have := d.now.val_le name
    have := HF.out.le.now_size
    have := HF.out.most
    omega
  clear hF hd hS
  unfold Dk.truncate
  by_cases h0 : d.may true [name] = 0
  · rw [if_neg (by simpa using h0)]
    rw [h0] at HMAY
    clear h0
    by_cases h1 : n < 0
    · rw [if_pos (.inl h1)]
      clear hlook
      go_enter Tryz.func103, Tryz.ntmps103
      go_wp2_with fail
      refine HMAY.out.mono ?_
      rintro e w' ⟨rfl, hm⟩
      obtain ⟨y1, rfl⟩ := hm.over
      have hmz : Mod NoB w (over (w.alloc (.cells #[.string ⟨name.toArray⟩] 9)) NoB y1) := ((Mod.refl _ _).alloc _).trans (over_mod _ _ _) (fun _ _ h => h)
      go_wp2_with fail
      go_ret
      exact ⟨rfl, hmz.mono (noB_sub _ _), (HH.out.mod hmz (fun _ _ => id)).mono (fun _ _ h => .inl h)⟩
    · by_cases h2 : n > (d.now.val name).length
      · rw [if_pos (.inr h2)]
        generalize d.now.val name = u at *
        go_enter Tryz.func103, Tryz.ntmps103
        go_wp2_with fail
        refine HMAY.out.mono ?_
        rintro e w' ⟨rfl, hm⟩
        obtain ⟨y1, rfl⟩ := hm.over
        have hmz : Mod NoB w (over (w.alloc (.cells #[.string ⟨name.toArray⟩] 9)) NoB y1) := ((Mod.refl _ _).alloc _).trans (over_mod _ _ _) (fun _ _ h => h)
        go_wp2_with fail
        go_ret
        exact ⟨rfl, hmz.mono (noB_sub _ _), (HH.out.mod hmz (fun _ _ => id)).mono (fun _ _ h => .inl h)⟩
      · rw [if_neg (by omega)]
        have HCM := Lib.hid (fun X hX => commit_after (c := ⟨4, name, [], [], n⟩) (X := X) HH.out hX HF.out (by refine ⟨?_, ?_, ?_, ?_, ?_, ?_⟩ <;> first | (simp; done) | (simp only; omega)))
        generalize d.now.val name = u at *
        go_enter Tryz.func103, Tryz.ntmps103
        go_wp2_with fail
        refine HMAY.out.mono ?_
        rintro e w' ⟨rfl, hm⟩
        obtain ⟨y1, rfl⟩ := hm.over
        have hmz : Mod NoB w (over (w.alloc (.cells #[.string ⟨name.toArray⟩] 9)) NoB y1) := ((Mod.refl _ _).alloc _).trans (over_mod _ _ _) (fun _ _ h => h)
        go_wp2_with fail
        refine (HCM.out _ hmz).mono ?_
        rintro e w3 ⟨rfl, hr⟩
        go_wp2_with fail
        go_ret
        exact ⟨rfl, hr⟩
  · rw [if_pos h0]
    have h0' : (d.may true [name] != 0) = true := by simpa using h0
    have H0 := Lib.hid h0; clear h0
    go_enter Tryz.func103, Tryz.ntmps103
    go_wp2_with fail
    refine HMAY.out.mono ?_
    rintro e w' ⟨rfl, hm⟩
    obtain ⟨y1, rfl⟩ := hm.over
    go_wp2_with fail
    go_ret
    have hmz : Mod NoB w (over (w.alloc (.cells #[.string ⟨name.toArray⟩] 9)) NoB y1) := ((Mod.refl _ _).alloc _).trans (over_mod _ _ _) (fun _ _ h => h)
    exact ⟨rfl, hmz.mono (noB_sub _ _), (HH.out.mod hmz (fun _ _ => id)).mono (fun _ _ h => .inl h)⟩

set_option maxRecDepth 100000 in
set_option maxHeartbeats 1600000 in
theorem Move_calls (p : Nat) (S : Nat → Prop) (d : Dk) (name to : Str) (N : Nat) (w : World) (h : Disk w p S d) (hF : Fit d N) (hn : name.length ≤ 1000000) (ht : to.length ≤ 1000000) :
    Calls Tryz.prog 130 #[.pointer (some ⟨p, 0, none⟩), .string ⟨name.toArray⟩, .string ⟨to.toArray⟩] w fun e w' => e = .returned (.int .i64 (d.move name to).1) ∧ Mod S w w' ∧ Disk w' p (Since S w w') (d.move name to).2 := by
  have hm0 : Mod NoB w (w.alloc (.cells #[.string ⟨name.toArray⟩, .string ⟨to.toArray⟩] 9)) := (Mod.refl _ _).alloc _
  have HMAY := Lib.hid (may_calls p S d true w.heap.size name [to] 2 _ (h.mod hm0 (fun _ _ => id)) (heap_alloc_new _ _) (by simp) (fun s hs => by rcases List.mem_cons.1 hs with rfl | hs; omega; rw [List.mem_singleton.1 hs]; omega))
  have HH := Lib.hid h
  have HF := Lib.hid hF
  clear hm0 h hF
  unfold Dk.move
  by_cases h0 : d.may true [name, to] = 0
  · rw [if_neg (by simpa using h0)]
    rw [h0] at HMAY
    clear h0
    by_cases h1 : name = to
    · rw [if_pos h1]
      have h1' : (name == to) = true := by simpa using h1
      have H1 := Lib.hid h1; clear h1
      go_enter Tryz.func130, Tryz.ntmps130
      go_wp2_with fail
      refine HMAY.out.mono ?_
      rintro e w' ⟨rfl, hm⟩
      obtain ⟨y1, rfl⟩ := hm.over
      have hmz : Mod NoB w (over (w.alloc (.cells #[.string ⟨name.toArray⟩, .string ⟨to.toArray⟩] 9)) NoB y1) := ((Mod.refl _ _).alloc _).trans (over_mod _ _ _) (fun _ _ h => h)
      go_wp2_with fail
      go_ret
      exact ⟨rfl, hmz.mono (noB_sub _ _), (HH.out.mod hmz (fun _ _ => id)).mono (fun _ _ h => .inl h)⟩
    · rw [if_neg h1]
      have h1' : (name == to) = false := by simpa using h1
      have HCM := Lib.hid (fun X hX => commit_after (c := ⟨2, name, to, [], 0⟩) (X := X) HH.out hX HF.out (by refine ⟨?_, ?_, ?_, ?_, ?_, ?_⟩ <;> first | (simp; done) | (simp only; omega)))
      have H1 := Lib.hid h1; clear h1
      go_enter Tryz.func130, Tryz.ntmps130
      go_wp2_with fail
      refine HMAY.out.mono ?_
      rintro e w' ⟨rfl, hm⟩
      obtain ⟨y1, rfl⟩ := hm.over
      have hmz : Mod NoB w (over (w.alloc (.cells #[.string ⟨name.toArray⟩, .string ⟨to.toArray⟩] 9)) NoB y1) := ((Mod.refl _ _).alloc _).trans (over_mod _ _ _) (fun _ _ h => h)
      go_wp2_with fail
      refine (HCM.out _ hmz).mono ?_
      rintro e w3 ⟨rfl, hr⟩
      go_wp2_with fail
      go_ret
      exact ⟨rfl, hr⟩
  · rw [if_pos h0]
    have h0' : (d.may true [name, to] != 0) = true := by simpa using h0
    have H0 := Lib.hid h0; clear h0
    go_enter Tryz.func130, Tryz.ntmps130
    go_wp2_with fail
    refine HMAY.out.mono ?_
    rintro e w' ⟨rfl, hm⟩
    obtain ⟨y1, rfl⟩ := hm.over
    have hmz : Mod NoB w (over (w.alloc (.cells #[.string ⟨name.toArray⟩, .string ⟨to.toArray⟩] 9)) NoB y1) := ((Mod.refl _ _).alloc _).trans (over_mod _ _ _) (fun _ _ h => h)
    go_wp2_with fail
    go_ret
    exact ⟨rfl, hmz.mono (noB_sub _ _), (HH.out.mod hmz (fun _ _ => id)).mono (fun _ _ h => .inl h)⟩

end Go.Proofs.YtgofngilfdnakaaGreat
