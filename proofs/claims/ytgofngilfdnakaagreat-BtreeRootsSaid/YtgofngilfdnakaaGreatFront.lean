/-
  This text proves, of regions whose order is drawn: reads may be taken first, if they yield one value in every world of a class that each operation keeps that may come ahead of them; no condition but the Bools that are asked of the region's edges; no Go function is spoken of.
-/
import Derived.Test.YtgofngilfdnakaaGreatMem
namespace Go.Proofs.YtgofngilfdnakaaGreat
open Go Go.RowKit
section
variable {P : Program} {ops : Array Oper} {Q : Exit → Act → World → Prop} {md : Region.Mode} {S : World → Prop} {F : Nat → Bool}

def notIn (l : List Nat) (j : Nat) : Bool := !l.contains j
/-- Whatever order is picked from here on; till one comes up that is not of F, S holds behind each. -/
def wpAnyF (P : Program) (md : Region.Mode) (ops : Array Oper) (Q : Exit → Act → World → Prop) (S : World → Prop) (F : Nat → Bool) : Nat → Array Bool → Act → World → Prop
  | 0, listed, a, w => Region.ready md ops listed = [] ∧ Q .normal a w
  | fuel + 1, listed, a, w =>
    (Region.ready md ops listed = [] → Q .normal a w) ∧
    ∀ i ∈ Region.ready md ops listed, wpOp P ops Q i (fun a' w' => if F i = true then S w' ∧ wpAnyF P md ops Q S F fuel (listed.setIfInBounds i true) a' w' else wpAny P md ops Q fuel (listed.setIfInBounds i true) a' w') a w
theorem wpAny_of_front : ∀ (fuel : Nat) (listed : Array Bool) (a : Act) (w : World), wpAnyF P md ops Q S F fuel listed a w → wpAny P md ops Q fuel listed a w
  | 0, _, _, _, h => h
  | fuel + 1, _, _, _, h => ⟨h.1, fun i hi => wpOp_mono (fun a' w' h' => by
    split at h'
    · exact wpAny_of_front fuel _ a' w' h'.2
    · exact h') (h.2 i hi)⟩
theorem ready_not {i j : Nat} {oj : Oper} {listed : Array Bool} (hr : i ∈ Region.ready md ops listed) (hj : j ∈ Region.ready md ops listed) (hoj : ops[j]? = some oj) : ∀ e ∈ oj.after, Region.binds md e = true → e.on ≠ i := fun e he hb heq => by
  obtain ⟨_, o, ho, hall⟩ := mem_ready.1 hj
  have : o = oj := Option.some.inj (ho.symm.trans hoj)
  subst this
  have h1 := hall e he hb
  rw [heq, getD_both (mem_ready.1 hr).1] at h1
  cases h1
theorem wpAnyF_first {i : Nat} {oi : Oper} {v : Value} (hi : ops[i]? = some oi) (hsel : ∀ (j : Nat) (o : Oper) cs b, ops[j]? = some o → o.op ≠ .select cs b)
    (hQ : ∀ c a w, Q (.panic c) (a.put oi.dst v) w → Q (.panic c) a w) (hF : F i = true) (hw : ∀ j oj, ops[j]? = some oj → F j = false → ∃ e ∈ oj.after, Region.binds md e = true ∧ e.on = i) :
    ∀ (fuel : Nat) (listed : Array Bool) (a : Act) (w : World),
      (∀ j oj, ops[j]? = some oj → j ≠ i → listed.getD j true = false → (∀ e ∈ oj.after, Region.binds md e = true → e.on ≠ i) → oi.apart ops oj = true) →
      i ∈ Region.ready md ops listed → YieldsIf P ops S oi v a → S w →
      wpAnyF P md ops Q S F fuel (listed.setIfInBounds i true) (a.put oi.dst v) w → wpAnyF P md ops Q S F (fuel + 1) listed a w := by
  intro fuel
  induction fuel with
  | zero =>
    intro listed a w _ hr hy hS H
    refine ⟨fun h => (by rw [h] at hr; cases hr), fun j hj => ?_⟩
    by_cases hji : j = i
    · subst hji; exact hy.wpOp hi hS (by rw [if_pos hF]; exact ⟨hS, H⟩)
    · have := ready_mono hj hji
      rw [H.1] at this
      cases this
  | succ fuel ih =>
    intro listed a w hfree hr hy hS H
    refine ⟨fun h => (by rw [h] at hr; cases hr), fun j hj => ?_⟩
    by_cases hji : j = i
    · subst hji; exact hy.wpOp hi hS (by rw [if_pos hF]; exact ⟨hS, H⟩)
    · have h1 := H.2 j (ready_mono hj hji)
      obtain ⟨hjun, oj, hoj, hall⟩ := mem_ready.1 hj
      have hnot := ready_not hr hj hoj
      have hFj : F j = true := by
        cases hc : F j with
        | true => rfl
        | false =>
          obtain ⟨e, he, hb, hon⟩ := hw j oj hoj hc
          exact absurd hon (hnot e he hb)
      have h2 := wpOp_putIf hoj (hfree j oj hoj hji hjun hnot) (fun cs b => hsel i oi cs b hi) (fun cs b => hsel j oj cs b hoj) hQ hy h1
      have hfree' : ∀ k ok, ops[k]? = some ok → k ≠ i → (listed.setIfInBounds j true).getD k true = false →
          (∀ e ∈ ok.after, Region.binds md e = true → e.on ≠ i) → oi.apart ops ok = true := fun k ok hk hki hun hno => by
        refine hfree k ok hk hki ?_ hno
        by_cases hjk : j = k
        · subst hjk; exact hjun
        · rw [getD_set_ne true hjk] at hun; exact hun
      refine wpOp_mono (fun a' w' h3 => ?_) h2
      obtain ⟨h3, h4⟩ := h3
      rw [if_pos hFj] at h4 ⊢
      refine ⟨h4.1, ih (listed.setIfInBounds j true) a' w' hfree' (ready_mono hr (Ne.symm hji)) h3 h4.1 ?_⟩
      rw [Array.setIfInBounds_comm _ _ hji]
      exact h4.2
theorem wpAnyF_firstT {i : Nat} {oi : Oper} {v : Value} (hi : ops[i]? = some oi) (hsel : ∀ (j : Nat) (o : Oper) cs b, ops[j]? = some o → o.op ≠ .select cs b)
    (hQ : ∀ c a w, Q (.panic c) (a.put oi.dst v) w → Q (.panic c) a w) (hF : F i = true) :
    ∀ (fuel : Nat) (listed : Array Bool) (a : Act) (w : World),
      (∀ j oj, ops[j]? = some oj → j ≠ i → listed.getD j true = false → (∀ e ∈ oj.after, Region.binds md e = true → e.on ≠ i) → oi.apart ops oj = true) →
      i ∈ Region.ready md ops listed → Yields P ops oi v a → S w →
      wpAnyF P md ops Q S F fuel (listed.setIfInBounds i true) (a.put oi.dst v) w → wpAnyF P md ops Q S F (fuel + 1) listed a w := by
  intro fuel
  induction fuel with
  | zero =>
    intro listed a w _ hr hy hS H
    refine ⟨fun h => (by rw [h] at hr; cases hr), fun j hj => ?_⟩
    by_cases hji : j = i
    · subst hji; exact hy.wpOp hi (by rw [if_pos hF]; exact ⟨hS, H⟩)
    · have := ready_mono hj hji
      rw [H.1] at this
      cases this
  | succ fuel ih =>
    intro listed a w hfree hr hy hS H
    refine ⟨fun h => (by rw [h] at hr; cases hr), fun j hj => ?_⟩
    by_cases hji : j = i
    · subst hji; exact hy.wpOp hi (by rw [if_pos hF]; exact ⟨hS, H⟩)
    · have h1 := H.2 j (ready_mono hj hji)
      obtain ⟨hjun, oj, hoj, hall⟩ := mem_ready.1 hj
      have hnot := ready_not hr hj hoj
      have h2 := wpOp_put hoj (hfree j oj hoj hji hjun hnot) (fun cs b => hsel i oi cs b hi) (fun cs b => hsel j oj cs b hoj) hQ hy h1
      have hfree' : ∀ k ok, ops[k]? = some ok → k ≠ i → (listed.setIfInBounds j true).getD k true = false →
          (∀ e ∈ ok.after, Region.binds md e = true → e.on ≠ i) → oi.apart ops ok = true := fun k ok hk hki hun hno => by
        refine hfree k ok hk hki ?_ hno
        by_cases hjk : j = k
        · subst hjk; exact hjun
        · rw [getD_set_ne true hjk] at hun; exact hun
      refine wpOp_mono (fun a' w' h3 => ?_) h2
      obtain ⟨h3, h4⟩ := h3
      split at h4
      · rename_i hFj
        rw [if_pos hFj]
        refine ⟨h4.1, ih (listed.setIfInBounds j true) a' w' hfree' (ready_mono hr (Ne.symm hji)) h3 h4.1 ?_⟩
        rw [Array.setIfInBounds_comm _ _ hji]
        exact h4.2
      · rename_i hFj
        rw [if_neg hFj]
        refine wpAny_first hi hsel hQ fuel (listed.setIfInBounds j true) a' w' hfree' (ready_mono hr (Ne.symm hji)) h3 ?_
        rw [Array.setIfInBounds_comm _ _ hji]
        exact h4
/-- What is asked of the edges. -/
def waitB (md : Region.Mode) (ops : Array Oper) (F : Nat → Bool) (i : Nat) : Bool := F i && (List.range ops.size).all (fun j => F j || (match ops[j]? with | some o => o.after.any (fun e => Region.binds md e && e.on == i) | none => true))
theorem waitB_spec {i : Nat} (h : waitB md ops F i = true) : F i = true ∧ ∀ j oj, ops[j]? = some oj → F j = false → ∃ e ∈ oj.after, Region.binds md e = true ∧ e.on = i := by
  simp only [waitB, Bool.and_eq_true] at h
  refine ⟨h.1, fun j oj hj hF => ?_⟩
  have := List.all_eq_true.1 h.2 j (List.mem_range.2 (Array.getElem?_eq_some_iff.1 hj).1)
  rw [hF, hj] at this
  simp only [Bool.false_or] at this
  obtain ⟨e, he, hb⟩ := Array.any_eq_true'.1 this
  simp only [Bool.and_eq_true, beq_iff_eq] at hb
  exact ⟨e, he, hb.1, hb.2⟩
theorem wpAnyF_take {i : Nat} {oi : Oper} {v : Value} {fuel : Nat} {listed : Array Bool} {a : Act} {w : World} (hi : ops[i]? = some oi)
    (hs : Region.noSelect ops = true) (hf : Region.free md ops listed i = true) (hr : (Region.ready md ops listed).contains i = true) (hb : waitB md ops F i = true)
    (hQ : ∀ c a w, Q (.panic c) (a.put oi.dst v) w → Q (.panic c) a w) (hy : YieldsIf P ops S oi v a) (hS : S w)
    (h : wpAnyF P md ops Q S F fuel (listed.setIfInBounds i true) (a.put oi.dst v) w) : wpAnyF P md ops Q S F (fuel + 1) listed a w :=
  wpAnyF_first hi (Region.noSelect_spec hs) hQ (waitB_spec hb).1 (waitB_spec hb).2 fuel listed a w (Region.free_spec hi hf) (by simpa using hr) hy hS h
theorem wpAnyF_takeT {i : Nat} {oi : Oper} {v : Value} {fuel : Nat} {listed : Array Bool} {a : Act} {w : World} (hi : ops[i]? = some oi)
    (hs : Region.noSelect ops = true) (hf : Region.free md ops listed i = true) (hr : (Region.ready md ops listed).contains i = true) (hb : F i = true)
    (hQ : ∀ c a w, Q (.panic c) (a.put oi.dst v) w → Q (.panic c) a w) (hy : Yields P ops oi v a) (hS : S w)
    (h : wpAnyF P md ops Q S F fuel (listed.setIfInBounds i true) (a.put oi.dst v) w) : wpAnyF P md ops Q S F (fuel + 1) listed a w :=
  wpAnyF_firstT hi (Region.noSelect_spec hs) hQ hb fuel listed a w (Region.free_spec hi hf) (by simpa using hr) hy hS h
/-- One operation as a step: what follows stands behind a letter. -/
def StepK (P : Program) (ops : Array Oper) (Q : Exit → Act → World → Prop) (R : Act → World → Prop) (a : Act) (w : World) (o : Oper) : Prop :=
  ∀ K : Act → World → Prop, (∀ a' w', R a' w' → K a' w') → if Region.wanted o (yielded ops a.tmps) = true then o.wp P a w K Q else K (a.put o.dst undef) w
theorem stepK_op {i : Nat} {R : Act → World → Prop} {a : Act} {w : World} {o : Oper} (hi : ops[i]? = some o) (h : StepK P ops Q R a w o) : wpOp P ops Q i R a w := by
  have := h R (fun _ _ h => h)
  unfold wpOp
  rw [hi]
  simp only
  split
  · rename_i hw
    rw [if_pos hw] at this
    exact .inl this
  · rename_i hw
    rw [if_neg hw] at this
    exact this
theorem stepF_op {i fuel : Nat} {listed : Array Bool} {a : Act} {w : World} {o : Oper} (hi : ops[i]? = some o) (hF : F i = true) (h : StepK P ops Q (fun a' w' => S w' ∧ wpAnyF P md ops Q S F fuel (listed.setIfInBounds i true) a' w') a w o) :
    wpOp P ops Q i (fun a' w' => if F i = true then S w' ∧ wpAnyF P md ops Q S F fuel (listed.setIfInBounds i true) a' w' else wpAny P md ops Q fuel (listed.setIfInBounds i true) a' w') a w := by
  simp only [if_pos hF]
  exact stepK_op hi h
theorem stepN_op {i fuel : Nat} {listed : Array Bool} {a : Act} {w : World} {o : Oper} (hi : ops[i]? = some o) (hF : F i = false) (h : StepK P ops Q (fun a' w' => wpAny P md ops Q fuel (listed.setIfInBounds i true) a' w') a w o) :
    wpOp P ops Q i (fun a' w' => if F i = true then S w' ∧ wpAnyF P md ops Q S F fuel (listed.setIfInBounds i true) a' w' else wpAny P md ops Q fuel (listed.setIfInBounds i true) a' w') a w := by
  have : ¬ F i = true := by rw [hF]; decide
  simp only [if_neg this]
  exact stepK_op hi h
theorem arm_if {c : Bool} {A E : Prop} {d : Decidable (c = true)} (h : if c = true then A else E) : @ite Prop (c = true) d A E := by
  cases c <;> simpa using h
theorem show_held {A B : Prop} (h : A) (k : A → B) : A ∧ B := ⟨h, k h⟩
theorem wpAnyF_all {rs : List Nat} {fuel : Nat} {listed : Array Bool} {a : Act} {w : World} (hr : Region.ready md ops listed = rs) (hne : rs ≠ [])
    (h : ∀ i ∈ rs, wpOp P ops Q i (fun a' w' => if F i = true then S w' ∧ wpAnyF P md ops Q S F fuel (listed.setIfInBounds i true) a' w' else wpAny P md ops Q fuel (listed.setIfInBounds i true) a' w') a w) : wpAnyF P md ops Q S F (fuel + 1) listed a w :=
  ⟨fun h0 => absurd (hr ▸ h0) hne, hr ▸ h⟩
theorem wpAnyF_done {listed : Array Bool} {a : Act} {w : World} (hr : Region.ready md ops listed = []) (h : Q .normal a w) : ∀ fuel, wpAnyF P md ops Q S F fuel listed a w
  | 0 => ⟨hr, h⟩
  | _ + 1 => ⟨fun _ => h, by rw [hr]; simp⟩
theorem wp_region_front {id : Nat} {a : Act} {w : World} (S : World → Prop) (F : Nat → Bool) (hm : P.follows .mixedOrders = true) (hS : S w.drew)
    (h : S w.drew → wpAnyF P .any ops Q S F ops.size (Array.replicate ops.size false) a w.drew) : (Code.region id ops true).wp P Q a w :=
  wp_region_any hm (wpAny_of_front _ _ _ _ (h hS))
set_option maxRecDepth 100000 in
/-- A call as one operation, behind the question of its guard. -/
theorem wp_fn {o : Oper} {a : Act} {w : World} {K : Act → World → Prop} (f : FuncId) (hf : ∀ args w, (callFunc f args).run P w = .ok (.enter f args) w) (xs : Array Operand) (ts : Array TypeId)
    (ho : o.op = .call { callee := .value (.func f), args := xs, argTypes := ts }) {vs : Array Value} (hx : xs.toList.map a.eval = vs.toList) {R : Value → World → Prop} (hc : Calls P f vs w fun e w' => ∃ u, e = .returned u ∧ R u w') (hK : ∀ u w', R u w' → K (a.put o.dst u) w') :
    Oper.wp P o a w K Q := by
  have hfn : a.eval (.func f) = .func (.func f) #[] #[] := rfl
  have hx2 : xs.map a.eval = vs := by
    apply Array.toList_inj.1
    rw [Array.toList_map, hx]
  unfold Oper.wp
  simp [execOp, ho, resolve, invoke, hx2, hfn, Deferred.ofValue, hf, Oper.upon]
  exact hc.mono fun e w' ⟨u, h1, h2⟩ => by
    subst h1
    exact hK u w' h2
/-! ### the same, said shortly -/
theorem tkL (i : Nat) {oi : Oper} {v : Value} {fuel : Nat} {listed : Array Bool} {a : Act} {w : World} (hv : ∀ w, S w → (execOp a.eval oi).run P w = .ok (.value v) w) (hS : S w)
    (h : wpAnyF P md ops Q S F fuel (listed.setIfInBounds i true) (a.put oi.dst v) w) (hi : ops[i]? = some oi := by rfl)
    (hs : Region.noSelect ops = true := by kernel_rfl) (hf : Region.free md ops listed i = true := by kernel_rfl) (hr : (Region.ready md ops listed).contains i = true := by kernel_rfl) (hb : waitB md ops F i = true := by kernel_rfl)
    (hQ : ∀ c a w, Q (.panic c) (a.put oi.dst v) w → Q (.panic c) a w := by exact fun _ _ _ h => h) (hw : Region.wanted oi (yielded ops a.tmps) = true := by rfl) : wpAnyF P md ops Q S F (fuel + 1) listed a w :=
  wpAnyF_take hi hs hf hr hb hQ (.inl ⟨hw, hv⟩) hS h
theorem tkT (i : Nat) {oi : Oper} {v : Value} {fuel : Nat} {listed : Array Bool} {a : Act} {w : World} (hv : ∀ w, (execOp a.eval oi).run P w = .ok (.value v) w) (hS : S w)
    (h : wpAnyF P md ops Q S F fuel (listed.setIfInBounds i true) (a.put oi.dst v) w) (hi : ops[i]? = some oi := by rfl)
    (hs : Region.noSelect ops = true := by kernel_rfl) (hf : Region.free md ops listed i = true := by kernel_rfl) (hr : (Region.ready md ops listed).contains i = true := by kernel_rfl) (hb : F i = true := by kernel_rfl)
    (hQ : ∀ c a w, Q (.panic c) (a.put oi.dst v) w → Q (.panic c) a w := by exact fun _ _ _ h => h) (hw : Region.wanted oi (yielded ops a.tmps) = true := by rfl) : wpAnyF P md ops Q S F (fuel + 1) listed a w :=
  wpAnyF_takeT hi hs hf hr hb hQ (.inl ⟨hw, hv⟩) hS h
theorem tkN (i : Nat) {oi : Oper} {v : Value} {fuel : Nat} {listed : Array Bool} {a : Act} {w : World} (hv : ∀ w, (execOp a.eval oi).run P w = .ok (.value v) w)
    (h : wpAny P md ops Q fuel (listed.setIfInBounds i true) (a.put oi.dst v) w) (hi : ops[i]? = some oi := by rfl)
    (hs : Region.noSelect ops = true := by kernel_rfl) (hf : Region.free md ops listed i = true := by kernel_rfl) (hr : (Region.ready md ops listed).contains i = true := by kernel_rfl)
    (hQ : ∀ c a w, Q (.panic c) (a.put oi.dst v) w → Q (.panic c) a w := by exact fun _ _ _ h => h) (hw : Region.wanted oi (yielded ops a.tmps) = true := by rfl) : wpAny P md ops Q (fuel + 1) listed a w :=
  wpAny_take hi hs hf hr hQ (.inl ⟨hw, hv⟩) h
theorem stK {i : Nat} {R : Act → World → Prop} {a : Act} {w : World} {o : Oper} (h : StepK P ops Q R a w o) (hi : ops[i]? = some o := by rfl) : wpOp P ops Q i R a w := stepK_op hi h
theorem stF {i fuel : Nat} {listed : Array Bool} {a : Act} {w : World} {o : Oper} (h : StepK P ops Q (fun a' w' => S w' ∧ wpAnyF P md ops Q S F fuel (listed.setIfInBounds i true) a' w') a w o) (hi : ops[i]? = some o := by rfl) (hF : F i = true := by kernel_rfl) :
    wpOp P ops Q i (fun a' w' => if F i = true then S w' ∧ wpAnyF P md ops Q S F fuel (listed.setIfInBounds i true) a' w' else wpAny P md ops Q fuel (listed.setIfInBounds i true) a' w') a w := stepF_op hi hF h
theorem stN {i fuel : Nat} {listed : Array Bool} {a : Act} {w : World} {o : Oper} (h : StepK P ops Q (fun a' w' => wpAny P md ops Q fuel (listed.setIfInBounds i true) a' w') a w o) (hi : ops[i]? = some o := by rfl) (hF : F i = false := by kernel_rfl) :
    wpOp P ops Q i (fun a' w' => if F i = true then S w' ∧ wpAnyF P md ops Q S F fuel (listed.setIfInBounds i true) a' w' else wpAny P md ops Q fuel (listed.setIfInBounds i true) a' w') a w := stepN_op hi hF h
theorem mc {p : Nat → Prop} {a : Nat} {l : List Nat} (h1 : p a) (h2 : ∀ x ∈ l, p x) : ∀ x ∈ a :: l, p x := List.forall_mem_cons.2 ⟨h1, h2⟩
theorem mn {p : Nat → Prop} : ∀ x ∈ ([] : List Nat), p x := List.forall_mem_nil _
theorem allF (rs : List Nat) {fuel : Nat} {listed : Array Bool} {a : Act} {w : World}
    (h : ∀ i ∈ rs, wpOp P ops Q i (fun a' w' => if F i = true then S w' ∧ wpAnyF P md ops Q S F fuel (listed.setIfInBounds i true) a' w' else wpAny P md ops Q fuel (listed.setIfInBounds i true) a' w') a w)
    (hr : Region.ready md ops listed = rs := by kernel_rfl) (hne : rs ≠ [] := by simp) : wpAnyF P md ops Q S F (fuel + 1) listed a w := wpAnyF_all hr hne h
theorem allN (rs : List Nat) {fuel : Nat} {listed : Array Bool} {a : Act} {w : World} (h : ∀ i ∈ rs, wpOp P ops Q i (wpAny P md ops Q fuel (listed.setIfInBounds i true)) a w)
    (hr : Region.ready md ops listed = rs := by kernel_rfl) (hne : rs ≠ [] := by simp) : wpAny P md ops Q (fuel + 1) listed a w := wpAny_all hr hne h
theorem ga {α : Type} {xs : List α} {i : Nat} (h : i < xs.toArray.size) : xs.toArray[i] = xs[i]'(by simpa using h) := rfl
theorem gs {α : Type} {a : α} {as : List α} {i : Nat} (h : i + 1 < (a :: as).length) : (a :: as)[i + 1] = as[i]'(Nat.lt_of_succ_lt_succ h) := rfl
theorem gz {α : Type} {a : α} {as : List α} {h : 0 < (a :: as).length} : (a :: as)[0] = a := rfl
theorem sb {α : Type} {xs : List α} {i : Nat} {a : α} : xs.toArray.setIfInBounds i a = (xs.set i a).toArray := List.setIfInBounds_toArray _ _ _
theorem sz {α : Type} {a b : α} {as : List α} : (a :: as).set 0 b = b :: as := rfl
theorem ss {α : Type} {a b : α} {as : List α} {i : Nat} : (a :: as).set (i + 1) b = a :: as.set i b := rfl
end

end Go.Proofs.YtgofngilfdnakaaGreat
