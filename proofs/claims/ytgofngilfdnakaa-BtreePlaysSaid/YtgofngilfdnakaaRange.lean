/-
  This text proves a law of the walk on a range over a function whose body and whose iterator each change blocks that are named; no condition: no Go function is spoken of.
-/
import Derived.Test.YtgofngilfdnakaaStage
import Derived.RangeFuncNested
import Derived.RangeFuncBound
import Derived.RangeFuncCalls
import Derived.RangeFuncLeaves
import Derived.OwnWalkIn
import Derived.TacticsInMore
import Derived.LoopNIn
import Derived.LoopIn
namespace Go.Proofs.Ytgofngilfdnakaa
open Go Go.RowKit

/-- An operation that leaves its stage alone, at four stages. -/
theorem wpSt_four {P : Program} {ops : Array Oper} {Cs : List (World → Prop)} {Q : Act → Prop} {o : Oper} {rest : List Oper} {is : List StI} {a : Act} {lo : Nat} {C1 C2 C3 C4 : World → Prop} (h1 : Cs[lo]? = some C1) (h2 : Cs[lo + 1]? = some C2) (h3 : Cs[lo + 2]? = some C3) (h4 : Cs[lo + 3]? = some C4) (hd : ∃ d, o.dst = some d ∧ d < a.tmps.size)
    (h : wpQuiet P ops C1 (fun a' => wpQuiet P ops C2 (fun a'' => a'' = a' ∧ wpQuiet P ops C3 (fun a3 => a3 = a' ∧ wpQuiet P ops C4 (fun a4 => a4 = a' ∧ wpSt P ops (clsOf Cs) Q rest is a') [o] a) [o] a) [o] a) [o] a) :
    wpSt P ops (clsOf Cs) Q (o :: rest) (⟨lo, lo + 3, false⟩ :: is) a := by
  unfold wpSt
  by_cases hw : Region.wanted o (yielded ops a.tmps) = true
  · simp only [wpQuiet, hw, if_true] at h ⊢
    obtain ⟨v, hv, u, hu, he, u', hu', he', u4, hu4, he4, hK⟩ := h
    obtain ⟨d, hd1, hd2⟩ := hd
    have same : ∀ x, a.put o.dst x = a.put o.dst v → x = v := fun x he => by
      rw [hd1] at he
      have := congrArg (fun b : Act => b.tmps[d]?) he
      simpa [Act.put, Array.getElem?_setIfInBounds, hd2] using this
    obtain rfl := same _ he
    obtain rfl := same _ he'
    obtain rfl := same _ he4
    refine ⟨_, ?_, hK⟩
    unfold stepOk
    simp only [Bool.false_eq_true, if_false]
    intro s w hs1 hs2 hC
    have hs : s = lo ∨ s = lo + 1 ∨ s = lo + 2 ∨ s = lo + 3 := by omega
    rcases hs with hs | hs | hs | hs
    · subst hs
      rw [clsOf_eq h1] at hC ⊢
      exact loud_of_quiet hC (hv w hC)
    · subst hs
      rw [clsOf_eq h2] at hC ⊢
      exact loud_of_quiet hC (hu w hC)
    · subst hs
      rw [clsOf_eq h3] at hC ⊢
      exact loud_of_quiet hC (hu' w hC)
    · subst hs
      rw [clsOf_eq h4] at hC ⊢
      exact loud_of_quiet hC (hu4 w hC)
  · simp only [wpQuiet, hw, Bool.false_eq_true, if_false] at h ⊢
    exact ⟨(fun h' => by cases h'), h.2.2.2⟩

/-- An iterator that changes blocks of G alone, at rounds that change old blocks of B alone, and what came since w. -/
def SeqMod {α : Type} (F : Fence) (n : Nat) (P : Program) (g : Nat) (lb : Array Value) (encs : α → Array Value) (G B : Nat → Prop) (xs : List α) (w : World) : Prop :=
  ∀ (l : Nat) (J : List α → World → Prop) (W : World), Mod NoB w W → (∀ s X Y, J s X → Mod G X Y → J s Y) →
    (∀ pre x, (∃ post, xs = pre ++ x :: post) → ∀ W1, J pre W1 → YieldAt F (n - 1) P l (encs x) W1 fun e W' => e = .returned (.bool true) ∧ J (pre ++ [x]) W' ∧ Mod (fun k => B k ∨ w.heap.size ≤ k) W1 W') →
    J [] W → CallsIn F n P g (#[.func (.yield l) #[] #[]] ++ lb) W fun e W' => (∃ v, e = .returned v) ∧ J xs W'

theorem mod_putObj {F : Nat → Prop} (W : World) (l : Nat) (o : Obj) (hl : F l) : Mod F W (W.putObj l o) :=
  ⟨rfl, rfl, rfl, by simp [World.putObj], fun k _ hk => World.putObj_heap_other (fun e => hk (e ▸ hl))⟩

theorem wpIn_rangeFunc_mod {F : Fence} {n : Nat} {P : Program} {α : Type} {g : Operand} {ps : Array Tmp} {assign body : Code} {Q : Exit → Act → World → Prop} {a : Act} {w : World}
    (hro : F.round = none) (h1 : 1 ≤ n) {gf : Nat} {lb : Array Value} (hg : a.eval g = .func (.func gf) #[] lb) (hFg : F.fn gf) (eg : ∀ args w, (callFunc gf args).run P w = .ok (.enter gf args) w)
    {encs : α → Array Value} {G B : Nat → Prop} {xs : List α} (hseq : SeqMod F (n - 1) P gf lb encs G B xs w) (hps : ∀ x, (encs x).size = ps.size)
    (hG : ∀ k, G k → k < w.heap.size) (hB : ∀ k, B k → k < w.heap.size)
    (I : List α → World → Prop) (hI : ∀ s X Y, I s X → Mod (fun k => G k ∨ (w.heap.size ≤ k ∧ k < w.heap.size + 2)) X Y → I s Y) (h0 : I [] w)
    (Ax : List α → α → Act → World → Prop) (hAx : ∀ pre x a' X Y, Ax pre x a' X → Mod (fun k => w.heap.size ≤ k ∧ k < w.heap.size + 2) X Y → Ax pre x a' Y)
    (hassign : ∀ (l : Nat) (pre : List α) (x : α) (W : World), I pre W → w.heap.size + 2 ≤ W.heap.size →
      assign.wpIn (F.inRound l) (n - 1 - 1) P (Exit.then (fun a' W' => Mod NoB W W' ∧ Ax pre x a' W') (fun _ _ _ => False)) { tmps := (ps.zip (encs x)).foldl (fun t (p, v) => t.setIfInBounds p v) a.tmps, defers := [] } W)
    (hbody : ∀ (l : Nat) (pre : List α) (x : α) (a' : Act) (W : World), (∃ post, xs = pre ++ x :: post) → Ax pre x a' W → w.heap.size + 2 ≤ W.heap.size → body.wpIn (F.inRound l) (n - 1 - 1) P (fun e _ W' => e = .normal ∧ Mod B W W' ∧ I (pre ++ [x]) W') a' W)
    (hdone : ∀ (W : World), I xs W → w.heap.size + 2 ≤ W.heap.size → W.heap[w.heap.size]? = some (.deferred (some [])) → Q .normal { a with defers := { target := .collected w.heap.size, args := #[] } :: a.defers } W) :
    (Code.rangeFunc g ps assign body).wpIn F n P Q a w := by
  refine wpIn_rangeFunc ?_
  intro fn hfn
  rw [hro]
  obtain ⟨rec, hrec⟩ : ∃ rec : LoopState → Option Code → Loop, rec = fun st pe => { state := st, pending := pe, fn, tmps := a.tmps, params := ps, assign, body, defers := w.heap.size } := ⟨_, rfl⟩
  obtain ⟨W1, hW1⟩ : ∃ W1, (w.alloc (.deferred (some []))).alloc (.loop (rec .ready none)) = W1 := ⟨_, rfl⟩
  have hL1 : W1.heap[w.heap.size + 1]? = some (.loop (rec .ready none)) := by
    rw [← hW1]; have := World.alloc_heap_new (w.alloc (.deferred (some []))) (.loop (rec .ready none)); rwa [World.size_alloc] at this
  have hK1 : W1.heap[w.heap.size]? = some (.deferred (some [])) := by
    rw [← hW1, heap_alloc_lt _ _ _ (by simp)]; exact World.alloc_heap_new w _
  have hM1 : Mod NoB w W1 := by rw [← hW1]; exact ((Mod.refl _ _).alloc _).alloc _
  have hI1 : I [] W1 := hI _ _ _ h0 (hM1.mono (noB_sub _ _))
  have hB1 : Mod NoB w W1 := hM1
  have hne : w.heap.size + 1 ≠ w.heap.size := by omega
  refine ⟨w.heap.size + 1, [{ target := .collected w.heap.size, args := #[] }], W1, { target := .fn (.func gf) lb, args := #[.func (.yield (w.heap.size + 1)) #[] #[]] }, W1, gf,
    #[.func (.yield (w.heap.size + 1)) #[] #[]] ++ lb, W1, ?_, ?_, ?_, ?_, fun _ => h1, ?_⟩
  · rw [← hW1, hrec]; exact run_enterLoop_outer _ _ _ _ _
  · simp only [resolve, hg]
    simp [go_sem]
  · intro f' hf'; simp [Target.leads] at hf'; subst hf'; exact hFg
  · simp [invoke, go_sem, eg]
  · refine (hseq (w.heap.size + 1)
      (fun pre W => I pre W ∧ W.heap[w.heap.size + 1]? = some (.loop (rec .ready none)) ∧ W.heap[w.heap.size]? = some (.deferred (some [])))
      W1 hB1 ?_ ?_ ⟨hI1, hL1, hK1⟩).mono ?_
    · rintro s X Y ⟨hi, hl, hk⟩ hm
      have h1 := lt_heap hl
      have h2 := lt_heap hk
      exact ⟨hI _ _ _ hi (hm.mono (fun _ _ h => .inl h)), (hm.block _ h1 (fun h => by have := hG _ h; omega)).trans hl, (hm.block _ h2 (fun h => by have := hG _ h; omega)).trans hk⟩
    · rintro pre x hpost W ⟨hi, hl, hk⟩
      have hlt := lt_heap hl
      have hy := run_yield (P := P) (args := encs x) hl (by rw [hrec]; exact hps x)
      rw [hrec] at hy
      refine ⟨fn, _, assign, body, hy, roundIn_of_wpIn hfn (wpIn_mono (hassign _ pre x W hi (by omega)) ?_)⟩
      rintro e a' Wa hp
      cases e with
      | normal =>
        obtain ⟨hma, hax⟩ := hp
        have hl' : Wa.heap[w.heap.size + 1]? = some (.loop (rec .ready none)) := (hma.block _ hlt id).trans hl
        have hk' : Wa.heap[w.heap.size]? = some (.deferred (some [])) := (hma.block _ (lt_heap hk) id).trans hk
        have hlt' := lt_heap hl'
        refine ⟨_, run_beginRound hl' (by rw [hrec]), ?_⟩
        have hm2 : Mod (fun k => w.heap.size ≤ k ∧ k < w.heap.size + 2) Wa (Wa.putObj (w.heap.size + 1) (.loop { rec .ready none with state := .busy })) := mod_putObj _ _ _ ⟨by omega, by omega⟩
        have hl2 : (Wa.putObj (w.heap.size + 1) (.loop { rec .ready none with state := .busy })).heap[w.heap.size + 1]? = some (.loop { rec .ready none with state := .busy }) := World.putObj_heap_same hlt'
        have hk2 : (Wa.putObj (w.heap.size + 1) (.loop { rec .ready none with state := .busy })).heap[w.heap.size]? = some (.deferred (some [])) := (World.putObj_heap_other (by omega)).trans hk'
        refine wpIn_mono (hbody _ pre x a' _ hpost (hAx _ _ _ _ _ hax hm2) (Nat.le_trans (show w.heap.size + 2 ≤ Wa.heap.size by omega) hm2.size)) ?_
        rintro e a3 W3 ⟨rfl, hm3, hi3⟩
        have hl3 := (hm3.block _ (lt_heap hl2) (fun h => by have := hB _ h; omega)).trans hl2
        have hk3 := (hm3.block _ (lt_heap hk2) (fun h => by have := hB _ h; omega)).trans hk2
        have hr := run_endRound (P := P) none hl3
        rw [hrec] at hr hl3
        have hm4 : ∀ o, Mod (fun k => w.heap.size ≤ k ∧ k < w.heap.size + 2) W3 (W3.putObj (w.heap.size + 1) o) := fun o => mod_putObj _ _ _ ⟨by omega, by omega⟩
        refine ⟨_, _, hr, rfl, ⟨hI _ _ _ hi3 ((hm4 _).mono (fun _ _ h => .inr h)), by rw [hrec]; exact World.putObj_heap_same (lt_heap hl3), (World.putObj_heap_other (by omega)).trans hk3⟩, ?_⟩
        refine ((((hma.mono (noB_sub _ _)).trans hm2 (fun _ _ h => .inr h.1)).trans hm3 (fun _ _ h => .inl h)).trans (hm4 _) (fun _ _ h => .inr h.1))
      | _ => exact hp.elim
    · rintro e W2 ⟨⟨v, rfl⟩, hi, hl, hk⟩
      have hlt := lt_heap hl
      exact ⟨none, _, by have := run_endLoop (P := P) hl (by rw [hrec]; simp); rw [hrec] at this; exact this,
        hdone _ (hI _ _ _ hi (mod_putObj _ _ _ (.inr ⟨by omega, by omega⟩))) (by simp [World.putObj]; omega) ((World.putObj_heap_other (by omega)).trans hk)⟩

/-! ### a region that draws its order, within a round -/
theorem rowsIn_wide {n : Nat} {P : Program} {row : String} {args : Array Value} {w : World} {R : Value → World → Prop} (h : Rows P row args w R) : RowsIn Fence.wide n P row args w R :=
  fun c cs _ => let ⟨v, w', hr, hs⟩ := h c cs; ⟨v, w', hr, stepsIn_wide.2 hs⟩
theorem wpOpIn_round {l n : Nat} {P : Program} {ops : Array Oper} {Q : Exit → Act → World → Prop} {i : Nat} {K K' : Act → World → Prop} {a : Act} {w : World} (hnd : ∀ o, ops[i]? = some o → ∀ c, o.op ≠ .defer c) (hQ : ¬ LetsOut Q)
    (hK : ∀ a w, K a w → K' a w) (h : wpOp P ops Q i K a w) : wpOpIn (Fence.wide.inRound l) n P ops Q i K' a w := by
  unfold wpOp at h
  unfold wpOpIn
  cases ho : ops[i]? with
  | none => rw [ho] at h; exact hK _ _ h
  | some o =>
    rw [ho] at h
    simp only at h ⊢
    split
    · rename_i hw
      rw [if_pos hw] at h
      rcases h with h | ⟨_, h⟩
      · refine ⟨fun _ _ => trivial, ?_⟩
        have hsem : Oper.semAt (Fence.wide.inRound l).round a.eval o = execOp a.eval o := Oper.semAt_some l _ o (hnd o ho)
        rw [hsem]
        unfold Oper.wp at h
        generalize (execOp a.eval o).run P w = r at *
        cases r with
        | ok x w' =>
          cases x with
          | value v => exact hK _ _ h
          | skip => exact hK _ _ h
          | defer d => exact hK _ _ h
          | enter f args =>
            refine ⟨fun h => (by cases h), CallsIn.inRound l (callsIn_wide.2 (Calls.mono h fun e w'' he => ?_))⟩
            cases e with
            | returned v => exact hK _ _ he
            | panicked c => exact he
            | outgrown => exact he
          | row r args => exact ⟨fun h => (by cases h), rowsIn_wide (Rows.mono h fun v w'' he => hK _ _ he)⟩
          | _ => exact h.elim
        | halt x w' =>
          cases x with
          | panic v => exact h
          | _ => exact h.elim
      · exact absurd h hQ
    · rename_i hw
      rw [if_neg hw] at h
      exact ⟨fun _ _ => trivial, hK _ _ h⟩
theorem wpAnyIn_round {l n : Nat} {P : Program} {md : Region.Mode} {ops : Array Oper} {Q : Exit → Act → World → Prop} (hnd : ∀ (i : Nat) (o : Oper), ops[i]? = some o → ∀ c, o.op ≠ .defer c) (hQ : ¬ LetsOut Q) :
    ∀ (fuel : Nat) (listed : Array Bool) (a : Act) (w : World), wpAny P md ops Q fuel listed a w → wpAnyIn (Fence.wide.inRound l) n P md ops Q fuel listed a w
  | 0, _, _, _, h => h
  | fuel + 1, listed, _, _, h => ⟨h.1, fun i hi => wpOpIn_round (hnd i) hQ (fun a w => wpAnyIn_round hnd hQ fuel (listed.setIfInBounds i true) a w) (h.2 i hi)⟩
def noDefer (o : Oper) : Bool := match o.op with | .defer _ => false | _ => true
/-- In a round: a region whose first k operations are quiet in a class of worlds, and whose others come one behind the other. -/
theorem wpIn_round_quiet_tail {P : Program} {C : World → Prop} {id l n : Nat} {Q : Exit → Act → World → Prop} {a : Act} {w : World} {ops : List Oper} (k : Nat) (hm : P.follows .mixedOrders = true) (hB : Region.lexTailB .any ops.toArray k = true)
    (hnd : ops.all noDefer = true) (hQ : ¬ LetsOut Q) (hC : C w.drew)
    (h : wpQuiet P ops.toArray C (fun a' => ∀ w', C w' → wpList P ops.toArray Q (ops.drop k) a' w') (ops.take k) a) : (Code.region id ops.toArray true).wpIn (Fence.wide.inRound l) n P Q a w := by
  simp only [Region.lexTailB, Bool.and_eq_true, decide_eq_true_eq] at hB
  obtain ⟨⟨⟨⟨hsel, hn⟩, hs⟩, hc⟩, hlex⟩ := hB
  have hn' : k < ops.length := by simpa using hn
  have htl : (ops.take k).length = k := by simp; omega
  have hdl : (ops.drop k).length = ops.toArray.size - k := by simp
  have inv0 : HeadInv .any ops.toArray k (Array.replicate ops.toArray.size false) :=
    ⟨by simp, fun j oj _ hl => (by rw [getD_replicate_false] at hl; cases hl), fun t _ ht => getD_in (by simpa using ht) (getD_replicate_false _ _)⟩
  have H := wpAnyLQ_lex (md := .any) (C := C) (g := ops.toArray.size - k) hsel hs hc hn (ops.take k) 0 _ a (fun j hj => by
    have hj' : j < k := by rw [htl] at hj; exact hj
    simp [hj']) (by simpa using htl) inv0 (by rw [htl]; exact hlex) h
  refine wpIn_region_any hm (wpAnyIn_round (fun i o ho c he => ?_) hQ _ _ _ _ ?_)
  · have := List.all_eq_true.1 hnd o (by simpa using Array.mem_of_getElem? ho)
    simp [noDefer, he] at this
  · have := wpAny_of_headQ (Q' := Q) (g := ops.toArray.size - k) (fun listed a' w' hw' hL => by
      have := wpAny_of_seq (md := .any) (Q' := Q) (ops.drop k) k listed a' w' (fun j => by simp [List.getElem?_drop]) (by rw [hdl]; exact hL.1) (hL.2 w' hw')
      rwa [hdl] at this) _ _ _ w.drew hC H
    rw [htl, show k + (ops.toArray.size - k) = ops.toArray.size by omega] at this
    exact this

end Go.Proofs.Ytgofngilfdnakaa
