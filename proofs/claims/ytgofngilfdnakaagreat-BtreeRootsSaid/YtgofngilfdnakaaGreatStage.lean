/-
  This text proves, of regions whose order is drawn: where each operation yields one value in every world that it can meet, the walk in the order of the text serves every order; no condition but the Bool that is asked of the region's edges.
-/
import Derived.Test.YtgofngilfdnakaaGreatMem
namespace Go.Proofs.YtgofngilfdnakaaGreat
open Go Go.RowKit

/-- What is asked of an operation that was carried out: the value, a world of the class. -/
def loudUpon (P : Program) (C : World → Prop) (v : Value) : Result Next → Prop
  | .ok (.value u) w' => u = v ∧ C w'
  | .ok .skip w' => v = undef ∧ C w'
  | .ok (.enter f args) w' => Calls P f args w' (fun e w'' => e = .returned v ∧ C w'')
  | _ => False
def loudAt (P : Program) (o : Oper) (a : Act) (C : World → Prop) (w : World) (v : Value) : Prop := loudUpon P C v ((execOp a.eval o).run P w)

theorem wp_of_loud {P : Program} {o : Oper} {a : Act} {C : World → Prop} {w : World} {v : Value} {K : Act → World → Prop} {Q : Exit → Act → World → Prop}
    (h : loudAt P o a C w v) (hK : ∀ w', C w' → K (a.put o.dst v) w') : o.wp P a w K Q := by
  unfold loudAt at h
  unfold Oper.wp
  generalize (execOp a.eval o).run P w = r at *
  cases r with
  | ok n w' =>
    cases n <;> simp only [loudUpon] at h <;> simp only [Oper.upon]
    case value u =>
      obtain ⟨rfl, h⟩ := h
      exact hK _ h
    case skip =>
      obtain ⟨rfl, h⟩ := h
      exact hK _ h
    case enter f args => exact h.mono fun e w'' ⟨he, hw''⟩ => by subst he; exact hK _ hw''
  | halt x w' => simp only [loudUpon] at h

theorem loud_of_quiet {P : Program} {o : Oper} {a : Act} {C : World → Prop} {w : World} {v : Value} (hC : C w) (h : o.quietAt P a C w v) : loudAt P o a C w v := by
  unfold loudAt
  unfold Oper.quietAt at h
  generalize (execOp a.eval o).run P w = r at *
  cases r with
  | ok n w' =>
    cases n <;> simp only [Oper.quietUpon] at h <;> simp only [loudUpon]
    case value u => obtain ⟨rfl, rfl⟩ := h; exact ⟨rfl, hC⟩
    case skip => obtain ⟨rfl, rfl⟩ := h; exact ⟨rfl, hC⟩
    case enter f args => obtain ⟨rfl, h⟩ := h; exact h
  | halt x w' => simp only [Oper.quietUpon] at h

/-- lo: the least stage at which it may come; hi: the greatest; loud: it takes stage lo to the next. -/
structure StI where
  lo : Nat
  hi : Nat
  loud : Bool

def stepOk (P : Program) (C : Nat → World → Prop) (o : Oper) (i : StI) (a : Act) (v : Value) : Prop :=
  if i.loud then ∀ w, C i.lo w → loudAt P o a (C (i.lo + 1)) w v
  else ∀ s w, i.lo ≤ s → s ≤ i.hi → C s w → loudAt P o a (C s) w v

/-- The walk in the order of the text. -/
def wpSt (P : Program) (ops : Array Oper) (C : Nat → World → Prop) (Q : Act → Prop) : List Oper → List StI → Act → Prop
  | o :: rest, i :: is, a =>
    if Region.wanted o (yielded ops a.tmps) then ∃ v, stepOk P C o i a v ∧ wpSt P ops C Q rest is (a.put o.dst v)
    else (i.loud = true → ∀ w, C i.lo w → C (i.lo + 1) w) ∧ wpSt P ops C Q rest is (a.put o.dst undef)
  | _, _, a => Q a

/-- The operations of f, each with its value, in the order of the text. -/
def actL (f : Nat → Bool) : List Oper → List Value → Nat → Act → Act
  | o :: l, v :: vs, k, a => actL f l vs (k + 1) (if f k then a.put o.dst v else a)
  | _, _, _, a => a

theorem put_put_comm (a : Act) {x y : Option Tmp} (v u : Value) (h : ∀ d, x = some d → y ≠ some d) : (a.put x v).put y u = (a.put y u).put x v := (Act.put_comm a v u h).symm ▸ rfl

theorem actL_put (f : Nat → Bool) (i : Nat) : ∀ (l : List Oper) (vs : List Value) (k : Nat) (a : Act) (x : Option Tmp) (u : Value), (∀ j o, l[j]? = some o → f (k + j) = true → ∀ d, x = some d → o.dst ≠ some d) →
    actL f l vs k (a.put x u) = (actL f l vs k a).put x u
  | [], _, _, _, _, _, _ => rfl
  | _ :: _, [], _, _, _, _, _ => rfl
  | o :: l, v :: vs, k, a, x, u, h => by
    simp only [actL]
    have ih := fun a' => actL_put f i l vs (k + 1) a' x u (fun j o' ho hf => h (j + 1) o' (by simpa using ho) (by rw [← hf]; congr 1; omega))
    by_cases hf : f k = true
    · simp only [hf, if_true]
      rw [← Act.put_comm a v u (fun d hd he => h 0 o rfl hf d he hd), ih]
    · simp only [hf]
      exact ih a

theorem actL_congr {f g : Nat → Bool} : ∀ (l : List Oper) (vs : List Value) (k : Nat) (a : Act), (∀ j, j < l.length → f (k + j) = g (k + j)) → actL f l vs k a = actL g l vs k a
  | [], _, _, _, _ => rfl
  | _ :: _, [], _, _, _ => rfl
  | o :: l, v :: vs, k, a, h => by
    simp only [actL]
    rw [show f k = g k from h 0 (by simp)]
    exact actL_congr l vs (k + 1) _ (fun j hj => by have := h (j + 1) (by simpa using hj); rwa [show k + (j + 1) = k + 1 + j by omega] at this)

/-- One more operation is carried out. -/
theorem actL_set (f : Nat → Bool) : ∀ (l : List Oper) (vs : List Value) (k i : Nat) (a : Act) (o : Oper) (v : Value), l[i]? = some o → vs[i]? = some v → f (k + i) = false →
    (∀ j o', i < j → l[j]? = some o' → ∀ d, o.dst = some d → o'.dst ≠ some d) → actL (fun n => if n = k + i then true else f n) l vs k a = (actL f l vs k a).put o.dst v
  | [], _, _, i, _, _, _, ho, _, _, _ => by simp at ho
  | _ :: _, [], _, i, _, _, _, _, hv, _, _ => by simp at hv
  | o :: l, u :: vs, k, 0, a, o', v, ho, hv, hf, hd => by
    simp only [List.getElem?_cons_zero, Option.some.injEq] at ho hv
    subst ho; subst hv
    simp only [actL, Nat.add_zero, if_true]
    rw [Nat.add_zero] at hf
    simp only [hf, Bool.false_eq_true, if_false]
    rw [actL_congr (g := f) l vs (k + 1) _ (fun j _ => by rw [if_neg (by omega)])]
    exact actL_put f 0 l vs (k + 1) a _ _ (fun j o' hj _ d hd' => hd (j + 1) o' (by omega) (by simpa using hj) d hd')
  | o :: l, u :: vs, k, i + 1, a, o', v, ho, hv, hf, hd => by
    simp only [actL]
    have hk : (if k = k + (i + 1) then true else f k) = f k := if_neg (by omega)
    simp only [hk]
    have := actL_set f l vs (k + 1) i (if f k = true then a.put o.dst u else a) o' v (by simpa using ho) (by simpa using hv) (by rw [← hf]; congr 1; omega)
      (fun j o'' hij hj => hd (j + 1) o'' (by omega) (by simpa using hj))
    rw [← this]
    refine actL_congr l vs (k + 1) _ (fun j _ => ?_)
    rw [show k + 1 + i = k + (i + 1) by omega]

/-- Two frames agree on what an operation looks at. -/
def Agr (ts : List Tmp) (a a' : Act) : Prop := a.tmps.size = a'.tmps.size ∧ ∀ t ∈ ts, a.tmps[t]? = a'.tmps[t]?

theorem Agr.put {ts : List Tmp} {a a' : Act} (h : Agr ts a a') (x : Option Tmp) (v : Value) : Agr ts (a.put x v) (a'.put x v) := by
  cases x with
  | none => exact h
  | some d =>
    refine ⟨by simp [Act.put, h.1], fun t ht => ?_⟩
    simp only [Act.put, Array.getElem?_setIfInBounds, h.1]
    rw [h.2 t ht]
theorem Agr.put_left {ts : List Tmp} {a a' : Act} (h : Agr ts a a') (x : Option Tmp) (v : Value) (hx : ∀ d, x = some d → d ∉ ts) : Agr ts (a.put x v) a' := by
  cases x with
  | none => exact h
  | some d =>
    refine ⟨by simp [Act.put, h.1], fun t ht => ?_⟩
    have hne : d ≠ t := fun e => hx d rfl (e ▸ ht)
    simp only [Act.put, Array.getElem?_setIfInBounds, if_neg hne]
    exact h.2 t ht
theorem Agr.symm {ts : List Tmp} {a a' : Act} (h : Agr ts a a') : Agr ts a' a := ⟨h.1.symm, fun t ht => (h.2 t ht).symm⟩

theorem actL_agr {f g : Nat → Bool} {ts : List Tmp} : ∀ (l : List Oper) (vs : List Value) (k : Nat) (a a' : Act), Agr ts a a' →
    (∀ j o, l[j]? = some o → f (k + j) ≠ g (k + j) → ∀ d, o.dst = some d → d ∉ ts) → Agr ts (actL f l vs k a) (actL g l vs k a')
  | [], _, _, _, _, h, _ => h
  | _ :: _, [], _, _, _, h, _ => h
  | o :: l, v :: vs, k, a, a', h, hd => by
    simp only [actL]
    refine actL_agr l vs (k + 1) _ _ ?_ (fun j o' hj hne => hd (j + 1) o' (by simpa using hj) (by rwa [show k + (j + 1) = k + 1 + j by omega]))
    have h0 := hd 0 o rfl
    rw [Nat.add_zero] at h0
    cases hf : f k <;> cases hg : g k <;> simp only [if_true, if_false, Bool.false_eq_true]
    · exact h
    · exact (h.symm.put_left _ _ (h0 (by rw [hf, hg]; decide))).symm
    · exact h.put_left _ _ (h0 (by rw [hf, hg]; decide))
    · exact h.put _ _

theorem agr_exec {ops : Array Oper} {o : Oper} {a a' : Act} (hs : ∀ cs b, o.op ≠ .select cs b) (h : Agr (o.looksAt ops) a a') : execOp a.eval o = execOp a'.eval o := by
  refine execOp_congr o hs fun x hx => ?_
  cases x with
  | tmp t =>
    have := h.2 t (List.mem_append_left _ (List.mem_filterMap.2 ⟨.tmp t, by simpa using hx, rfl⟩))
    simp only [Act.eval, Array.getD_eq_getD_getElem?]
    rw [this]
  | const v => rfl
  | global g => rfl
  | func f => rfl
theorem agr_wanted {ops : Array Oper} {o : Oper} {a a' : Act} (h : Agr (o.looksAt ops) a a') : Region.wanted o (yielded ops a.tmps) = Region.wanted o (yielded ops a'.tmps) := by
  unfold Region.wanted
  cases hg : o.guard with
  | none => rfl
  | some q =>
    obtain ⟨g, want⟩ := q
    simp only
    have : yielded ops a.tmps g = yielded ops a'.tmps g := by
      unfold yielded
      cases hd : (ops[g]?).bind (·.dst) with
      | none => rfl
      | some t =>
        simp only [Option.bind_some]
        rw [h.2 t (List.mem_append_right _ (by simp [hg, hd]))]
    rw [this]

/-- What the walk in the order of the text has shown of each operation. -/
def LexSpec (P : Program) (ops : Array Oper) (C : Nat → World → Prop) (l : List Oper) (is : List StI) (vs : List Value) (A : Nat → Act) : Prop :=
  ∀ k o i v, l[k]? = some o → is[k]? = some i → vs[k]? = some v →
    (Region.wanted o (yielded ops (A k).tmps) = true ∧ stepOk P C o i (A k) v) ∨
    (Region.wanted o (yielded ops (A k).tmps) = false ∧ v = undef ∧ (i.loud = true → ∀ w, C i.lo w → C (i.lo + 1) w))

theorem lex_of_wpSt {P : Program} {ops : Array Oper} {C : Nat → World → Prop} {Q : Act → Prop} : ∀ (l : List Oper) (is : List StI) (a : Act), is.length = l.length → wpSt P ops C Q l is a →
    ∃ vs : List Value, vs.length = l.length ∧ LexSpec P ops C l is vs (fun k => actL (fun n => decide (n < k)) l vs 0 a) ∧ Q (actL (fun _ => true) l vs 0 a)
  | [], [], a, _, h => ⟨[], rfl, fun k o i v ho => by simp at ho, h⟩
  | [], _ :: _, _, hl, _ => by simp at hl
  | _ :: _, [], _, hl, _ => by simp at hl
  | o :: l, i :: is, a, hl, h => by
    have key : ∀ v, ((Region.wanted o (yielded ops a.tmps) = true ∧ stepOk P C o i a v) ∨ (Region.wanted o (yielded ops a.tmps) = false ∧ v = undef ∧ (i.loud = true → ∀ w, C i.lo w → C (i.lo + 1) w))) →
        wpSt P ops C Q l is (a.put o.dst v) → ∃ vs : List Value, vs.length = (o :: l).length ∧ LexSpec P ops C (o :: l) (i :: is) vs (fun k => actL (fun n => decide (n < k)) (o :: l) vs 0 a) ∧ Q (actL (fun _ => true) (o :: l) vs 0 a) := fun v hv hw => by
      obtain ⟨vs, h1, h2, h3⟩ := lex_of_wpSt l is (a.put o.dst v) (by simpa using hl) hw
      have shift : ∀ (f : Nat → Bool) (b : Act) (l' : List Oper) (vs' : List Value) (m : Nat), actL f l' vs' (m + 1) b = actL (fun n => f (n + 1)) l' vs' m b := by
        intro f b l'
        induction l' generalizing b with
        | nil => intro vs' m; rfl
        | cons o' l' ih =>
          intro vs' m
          cases vs' with
          | nil => rfl
          | cons v' vs' => simp only [actL]; exact ih _ vs' (m + 1)
      refine ⟨v :: vs, by simp [h1], fun k o' i' v' ho hi hv' => ?_, ?_⟩
      · cases k with
        | zero =>
          simp only [List.getElem?_cons_zero, Option.some.injEq] at ho hi hv'
          subst ho; subst hi; subst hv'
          have e : actL (fun n => decide (n < 0)) (o :: l) (v :: vs) 0 a = a := by
            have : ∀ (l' : List Oper) (vs' : List Value) (m : Nat) (b : Act), actL (fun n => decide (n < 0)) l' vs' m b = b := by
              intro l'
              induction l' with
              | nil => intros; rfl
              | cons o' l' ih => intro vs' m b; cases vs' with
                | nil => rfl
                | cons v' vs' => simp only [actL, Nat.not_lt_zero, decide_false, Bool.false_eq_true, if_false]; exact ih _ _ _
            exact this _ _ _ _
          simp only [e]
          exact hv
        | succ k =>
          have e : actL (fun n => decide (n < k + 1)) (o :: l) (v :: vs) 0 a = actL (fun n => decide (n < k)) l vs 0 (a.put o.dst v) := by
            simp only [actL, Nat.zero_lt_succ, decide_true, if_true]
            rw [shift]
            simp only [Nat.add_lt_add_iff_right]
          simp only [e]
          exact h2 k o' i' v' (by simpa using ho) (by simpa using hi) (by simpa using hv')
      · simp only [actL, if_true]
        rw [shift]
        exact h3
    unfold wpSt at h
    by_cases hw : Region.wanted o (yielded ops a.tmps) = true
    · rw [if_pos hw] at h
      obtain ⟨v, h1, h2⟩ := h
      exact key v (.inl ⟨hw, h1⟩) h2
    · rw [if_neg hw] at h
      exact key undef (.inr ⟨by simpa using hw, rfl, h.1⟩) h.2

/-- What is asked of a region's edges. -/
def stB (ops : Array Oper) (is : List StI) (m : Nat) : Bool :=
  Region.noSelect ops && (decide (is.length = ops.size) &&
  (((List.range ops.size).all fun k => match ops[k]? with | some o => o.after.all (fun e => !Region.binds .any e || decide (e.on < k)) | none => true) &&
  (((List.range ops.size).all fun k => (List.range k).all fun j => Region.waitsFor .any ops k j || (match ops[j]?, ops[k]? with | some x, some y => x.apart ops y | _, _ => true)) &&
  (((List.range ops.size).all fun k => (List.range k).all fun j => match ops[j]?, ops[k]? with | some x, some y => (match x.dst with | some d => y.dst != some d | none => true) | _, _ => true) &&
  (((List.range ops.size).all fun k => match is[k]? with
    | some i => (decide (i.lo = 0) || (List.range k).any fun j => Region.waitsFor .any ops k j && (match is[j]? with | some q => q.loud && decide (q.lo + 1 = i.lo) | none => false)) &&
       (if i.loud then decide (i.lo < m) && (List.range k).all fun j => match is[j]? with | some q => !q.loud || decide (q.lo < i.lo) | none => true
        else decide (m ≤ i.hi) || (List.range ops.size).any fun j => Region.waitsFor .any ops j k && (match is[j]? with | some q => q.loud && decide (q.lo ≤ i.hi) | none => false))
    | none => false) &&
  (decide (m = 0) || (List.range ops.size).any fun j => match is[j]? with | some q => q.loud && decide (q.lo + 1 = m) | none => false))))))

section
variable {P : Program} {l : List Oper} {is : List StI} {m : Nat}

/-- The state of a schedule: which operations are done. -/
structure StInv (l : List Oper) (is : List StI) (m : Nat) (listed : Array Bool) (s : Nat) : Prop where
  size : listed.size = l.length
  closed : ∀ j o, l[j]? = some o → listed.getD j false = true → ∀ e ∈ o.after, Region.binds .any e = true → listed.getD e.on false = true
  stage : ∀ k i, is[k]? = some i → i.loud = true → (listed.getD k false = true ↔ i.lo < s)
  top : s ≤ m

theorem getD_tf {listed : Array Bool} {i : Nat} (h : listed.getD i true = false) : listed.getD i false = false := getD_both h

theorem wpAny_staged {C : Nat → World → Prop} {Q : Exit → Act → World → Prop} {vs : List Value} {a : Act} (hB : stB l.toArray is m = true)
    (hvs : vs.length = l.length) (hL : LexSpec P l.toArray C l is vs (fun k => actL (fun n => decide (n < k)) l vs 0 a)) (hfin : ∀ w, C m w → Q .normal (actL (fun _ => true) l vs 0 a) w) :
    ∀ (fuel : Nat) (listed : Array Bool) (s : Nat) (w : World), fuel + listed.toList.countP (fun b => b) = l.length → StInv l is m listed s → C s w →
      wpAny P .any l.toArray Q fuel listed (actL (fun k => listed.getD k false) l vs 0 a) w := by
  simp only [stB, Bool.and_eq_true, decide_eq_true_eq, List.size_toArray] at hB
  obtain ⟨hsel, hlen, hback, hpair, hdst, hst, htop⟩ := hB
  have hback' : ∀ (k : Nat) (o : Oper), l[k]? = some o → ∀ e ∈ o.after, Region.binds .any e = true → e.on < k := fun k o ho e he hb => by
    have hk : k < l.length := (List.getElem?_eq_some_iff.1 ho).1
    have h1 := List.all_eq_true.1 hback k (List.mem_range.2 hk)
    simp only [List.getElem?_toArray, ho] at h1
    have h2 := Array.all_eq_true_iff_forall_mem.1 h1 e he
    simpa [hb] using h2
  have hpair' : ∀ (j k : Nat) (x y : Oper), j < k → l[j]? = some x → l[k]? = some y → (∃ e ∈ y.after, Region.binds .any e = true ∧ e.on = j) ∨ x.apart l.toArray y = true := fun j k x y hjk hx hy => by
    have hk : k < l.length := (List.getElem?_eq_some_iff.1 hy).1
    have h1 := List.all_eq_true.1 (List.all_eq_true.1 hpair k (List.mem_range.2 hk)) j (List.mem_range.2 hjk)
    simp only [List.getElem?_toArray, hx, hy, Bool.or_eq_true] at h1
    rcases h1 with h1 | h1
    · obtain ⟨oj, ho, e, he, hb, hon⟩ := Region.waitsFor_spec h1
      simp only [List.getElem?_toArray, hy, Option.some.injEq] at ho
      subst ho
      exact .inl ⟨e, he, hb, hon⟩
    · exact .inr h1
  have hdst' : ∀ (j k : Nat) (x y : Oper), j < k → l[j]? = some x → l[k]? = some y → ∀ d, x.dst = some d → y.dst ≠ some d := fun j k x y hjk hx hy d hd => by
    have hk : k < l.length := (List.getElem?_eq_some_iff.1 hy).1
    have h1 := List.all_eq_true.1 (List.all_eq_true.1 hdst k (List.mem_range.2 hk)) j (List.mem_range.2 hjk)
    simp only [List.getElem?_toArray, hx, hy, hd, bne_iff_ne] at h1
    exact h1
  have waits : ∀ k j, Region.waitsFor .any l.toArray k j = true → ∃ o, l[k]? = some o ∧ ∃ e ∈ o.after, Region.binds .any e = true ∧ e.on = j := fun k j h => by
    obtain ⟨o, ho, r⟩ := Region.waitsFor_spec h
    exact ⟨o, by simpa using ho, r⟩
  -- where every operation is done
  have allDone : ∀ (listed : Array Bool) (s : Nat), StInv l is m listed s → (∀ k, k < l.length → listed.getD k false = true) → s = m := fun listed s inv h => by
    rcases Nat.eq_zero_or_pos m with h0 | h0
    · have := inv.top; omega
    · have h1 : (List.range l.length).any (fun j => match is[j]? with | some q => q.loud && decide (q.lo + 1 = m) | none => false) = true := by
        simp only [Bool.or_eq_true, decide_eq_true_eq] at htop
        rcases htop with h2 | h2
        · omega
        · exact h2
      obtain ⟨j, hj, h2⟩ := List.any_eq_true.1 h1
      cases hi : is[j]? with
      | none => simp [hi] at h2
      | some q =>
        simp only [hi, Bool.and_eq_true, decide_eq_true_eq] at h2
        have := (inv.stage j q hi h2.1).1 (h j (List.mem_range.1 hj))
        have := inv.top
        omega
  have noneReady : ∀ (listed : Array Bool) (s : Nat), StInv l is m listed s → Region.ready .any l.toArray listed = [] → ∀ k, k < l.length → listed.getD k false = true := fun listed s inv h => by
    intro k
    induction k using Nat.strongRecOn with
    | ind k ih =>
      intro hk
      cases hl : listed.getD k false with
      | true => rfl
      | false =>
        exfalso
        have : k ∈ Region.ready .any l.toArray listed := by
          refine mem_ready.2 ⟨getD_in (by rw [inv.size]; exact hk) hl, l[k], by simp [hk], fun e he hb => ?_⟩
          have := hback' k l[k] (List.getElem?_eq_getElem hk) e he hb
          exact ih e.on this (by omega)
        rw [h] at this
        cases this
  have countAll : ∀ (listed : Array Bool), listed.size = l.length → (∀ k, k < l.length → listed.getD k false = true) → listed.toList.countP (fun b => b) = l.length := fun listed hs h => by
    rw [← hs, ← Array.length_toList]
    refine List.countP_eq_length.2 fun b hb => ?_
    obtain ⟨k, hk, rfl⟩ := List.getElem_of_mem hb
    have hk' : k < listed.size := by simpa using hk
    have := h k (by omega)
    simpa [Array.getD, hk'] using this
  intro fuel
  induction fuel with
  | zero =>
    intro listed s w hc inv hC
    have hall : ∀ k, k < l.length → listed.getD k false = true := fun k hk => by
      have h1 : listed.toList.countP (fun b => b) = listed.toList.length := by rw [Array.length_toList, inv.size]; omega
      have h2 := List.countP_eq_length.1 h1
      have hk' : k < listed.size := by rw [inv.size]; exact hk
      have := h2 listed[k] (by simp)
      simpa [Array.getD, hk'] using this
    have hsm := allDone listed s inv hall
    subst hsm
    refine ⟨?_, ?_⟩
    · refine List.eq_nil_iff_forall_not_mem.2 fun j hj => ?_
      obtain ⟨h1, o, ho, _⟩ := mem_ready.1 hj
      have hj' : j < l.length := by have := (Array.getElem?_eq_some_iff.1 ho).1; simpa using this
      have := hall j hj'
      rw [getD_tf h1] at this
      cases this
    · rw [actL_congr (g := fun _ => true) l vs 0 a (fun j hj => by rw [Nat.zero_add]; exact hall j hj)]
      exact hfin w hC
  | succ fuel ih =>
    intro listed s w hc inv hC
    refine ⟨fun h => ?_, fun i hi => ?_⟩
    · have := countAll listed inv.size (noneReady listed s inv h)
      omega
    · obtain ⟨hun, o, ho, hpre⟩ := mem_ready.1 hi
      have ho' : l[i]? = some o := by simpa using ho
      have hil : i < l.length := (List.getElem?_eq_some_iff.1 ho').1
      have hunf := getD_tf hun
      obtain ⟨q, hq⟩ : ∃ q, is[i]? = some q := ⟨is[i]'(by omega), List.getElem?_eq_getElem _⟩
      obtain ⟨v, hv⟩ : ∃ v, vs[i]? = some v := ⟨vs[i]'(by omega), List.getElem?_eq_getElem _⟩
      -- the frame as it is, and as it is in the order of the text
      have hagr : Agr (o.looksAt l.toArray) (actL (fun n => decide (n < i)) l vs 0 a) (actL (fun k => listed.getD k false) l vs 0 a) := by
        refine actL_agr l vs 0 a a ⟨rfl, fun _ _ => rfl⟩ fun j x hx hne d hd => ?_
        rw [Nat.zero_add] at hne
        rcases Nat.lt_trichotomy j i with hj | hj | hj
        · rcases hpair' j i x o hj hx ho' with ⟨e, he, hb, hon⟩ | hap
          · exfalso
            have := hpre e he hb
            rw [hon] at this
            simp [hj, this] at hne
          · exact (Oper.apart_spec hap).1 d hd
        · subst hj
          simp [hunf] at hne
        · rcases hpair' i j o x hj ho' hx with ⟨e, he, hb, hon⟩ | hap
          · exfalso
            have hlj : listed.getD j false = true := by
              have h1 : ¬ (j < i) := by omega
              cases hlj : listed.getD j false with
              | true => rfl
              | false => rw [hlj] at hne; simp [h1] at hne
            have := inv.closed j x hx hlj e he hb
            rw [hon, hunf] at this
            cases this
          · exact (Oper.apart_spec hap).2.2 d hd
      -- the stage
      have hst' := List.all_eq_true.1 hst i (List.mem_range.2 hil)
      simp only [hq, Bool.and_eq_true, Bool.or_eq_true, decide_eq_true_eq] at hst'
      obtain ⟨hlo, hhi⟩ := hst'
      have hlo' : q.lo ≤ s := by
        rcases hlo with h0 | h0
        · omega
        · obtain ⟨j, _, h1⟩ := List.any_eq_true.1 h0
          simp only [Bool.and_eq_true] at h1
          obtain ⟨h1, h2⟩ := h1
          obtain ⟨o2, ho2, e, he, hb, hon⟩ := waits i j h1
          have : o2 = o := Option.some.inj (ho2.symm.trans ho')
          subst this
          cases hj : is[j]? with
          | none => simp [hj] at h2
          | some r =>
            simp only [hj, Bool.and_eq_true, decide_eq_true_eq] at h2
            have h3 := hpre e he hb
            rw [hon] at h3
            have := (inv.stage j r hj h2.1).1 h3
            omega
      -- on, with the operation done
      have next : ∀ (s' : Nat) (w' : World), C s' w' → (q.loud = true → s' = s + 1 ∧ q.lo = s) → (q.loud = false → s' = s) →
          wpAny P .any l.toArray Q fuel (listed.setIfInBounds i true) ((actL (fun k => listed.getD k false) l vs 0 a).put o.dst v) w' := fun s' w' hC' hl1 hl2 => by
        have hset := actL_set (fun k => listed.getD k false) l vs 0 i a o v ho' hv (by rw [Nat.zero_add]; exact hunf) (fun j x hij hx d hd => hdst' i j o x hij ho' hx d hd)
        rw [← hset]
        have hfun : (fun n => if n = 0 + i then true else listed.getD n false) = fun k => (listed.setIfInBounds i true).getD k false := by
          funext k
          rw [Nat.zero_add]
          by_cases hk : k = i
          · subst hk
            rw [if_pos rfl]
            have : k < listed.size := by rw [inv.size]; exact hil
            simp [Array.getD, this]
          · rw [if_neg hk, getD_set_ne false (Ne.symm hk)]
        rw [hfun]
        refine ih (listed.setIfInBounds i true) s' w' ?_ ?_ hC'
        · have hi' : i < listed.toList.length := by rw [Array.length_toList, inv.size]; exact hil
          rw [Array.toList_setIfInBounds, List.countP_set hi']
          have h0 : listed.toList[i] = false := by
            have : i < listed.size := by rw [inv.size]; exact hil
            simpa [Array.getD, this] using hunf
          rw [h0]
          simp only [Bool.false_eq_true, if_false, if_true]
          omega
        · refine ⟨by simp [inv.size], fun j x hx hlj e he hb => ?_, fun k r hr hlr => ?_, ?_⟩
          · by_cases hj : j = i
            · subst hj
              have : x = o := Option.some.inj (hx.symm.trans ho')
              subst this
              exact getD_set_true (hpre e he hb)
            · rw [getD_set_ne false (Ne.symm hj)] at hlj
              exact getD_set_true (inv.closed j x hx hlj e he hb)
          · by_cases hk : k = i
            · subst hk
              have : r = q := Option.some.inj (hr.symm.trans hq)
              subst this
              have h1 : k < listed.size := by rw [inv.size]; exact hil
              obtain ⟨h2, h3⟩ := hl1 hlr
              simp [Array.getD, h1]
              omega
            · rw [getD_set_ne false (Ne.symm hk), inv.stage k r hr hlr]
              cases hlq : q.loud with
              | false => rw [hl2 hlq]
              | true =>
                obtain ⟨h2, h3⟩ := hl1 hlq
                -- two loud ones have stages that differ
                have hne : r.lo ≠ q.lo := by
                  have hkl : k < l.length := by have := (List.getElem?_eq_some_iff.1 hr).1; omega
                  rcases Nat.lt_or_gt_of_ne hk with hlt | hgt
                  · have h4 := hhi
                    rw [if_pos hlq] at h4
                    simp only [Bool.and_eq_true, decide_eq_true_eq] at h4
                    have h5 := List.all_eq_true.1 h4.2 k (List.mem_range.2 hlt)
                    simp only [hr, hlr, Bool.not_true, Bool.false_or, decide_eq_true_eq] at h5
                    omega
                  · have h4 := List.all_eq_true.1 hst k (List.mem_range.2 hkl)
                    simp only [hr, Bool.and_eq_true] at h4
                    have h6 := h4.2
                    rw [if_pos hlr] at h6
                    simp only [Bool.and_eq_true, decide_eq_true_eq] at h6
                    have h5 := List.all_eq_true.1 h6.2 i (List.mem_range.2 hgt)
                    simp only [hq, hlq, Bool.not_true, Bool.false_or, decide_eq_true_eq] at h5
                    omega
                omega
          · cases hlq : q.loud with
            | false => rw [hl2 hlq]; exact inv.top
            | true =>
              obtain ⟨h2, h3⟩ := hl1 hlq
              have h4 := hhi
              rw [if_pos hlq] at h4
              simp only [Bool.and_eq_true, decide_eq_true_eq] at h4
              omega
      have hloudS : q.loud = true → q.lo = s := fun hlq => by
        have h1 := (inv.stage i q hq hlq)
        have h2 : ¬ q.lo < s := fun h => by rw [h1.2 h] at hunf; cases hunf
        omega
      have hquietS : q.loud = false → s ≤ q.hi := fun hlq => by
        have h4 := hhi
        rw [if_neg (by rw [hlq]; exact Bool.false_ne_true)] at h4
        simp only [Bool.or_eq_true, decide_eq_true_eq] at h4
        rcases h4 with h4 | h4
        · have := inv.top; omega
        · obtain ⟨j, _, h5⟩ := List.any_eq_true.1 h4
          simp only [Bool.and_eq_true] at h5
          obtain ⟨h5, h6⟩ := h5
          obtain ⟨x, hx, e, he, hb, hon⟩ := waits j i h5
          cases hj : is[j]? with
          | none => simp [hj] at h6
          | some r =>
            simp only [hj, Bool.and_eq_true, decide_eq_true_eq] at h6
            have h7 : ¬ r.lo < s := fun h => by
              have h8 := inv.closed j x hx ((inv.stage j r hj h6.1).2 h) e he hb
              rw [hon, hunf] at h8
              cases h8
            omega
      -- the step itself
      unfold wpOp
      simp only [List.getElem?_toArray, ho']
      rw [← agr_wanted hagr]
      rcases hL i o q v ho' hq hv with ⟨hw, hok⟩ | ⟨hw, rfl, hun'⟩
      · rw [if_pos hw]
        refine .inl ?_
        have hexec := agr_exec (Region.noSelect_spec hsel i o · · ho) hagr
        unfold stepOk at hok
        cases hlq : q.loud with
        | true =>
          rw [if_pos hlq] at hok
          have hs := hloudS hlq
          have h1 := hok w (by rw [hs]; exact hC)
          unfold loudAt at h1
          rw [hexec] at h1
          exact wp_of_loud (C := C (q.lo + 1)) h1 fun w' hw' => next (q.lo + 1) w' hw' (fun _ => ⟨by omega, hs⟩) (fun h => by rw [hlq] at h; cases h)
        | false =>
          rw [if_neg (by rw [hlq]; exact Bool.false_ne_true)] at hok
          have h1 := hok s w hlo' (hquietS hlq) hC
          unfold loudAt at h1
          rw [hexec] at h1
          exact wp_of_loud (C := C s) h1 fun w' hw' => next s w' hw' (fun h => by rw [hlq] at h; cases h) (fun _ => rfl)
      · rw [if_neg (by rw [hw]; exact Bool.false_ne_true)]
        cases hlq : q.loud with
        | true =>
          have hs := hloudS hlq
          exact next (q.lo + 1) w (hun' hlq w (by rw [hs]; exact hC)) (fun _ => ⟨by omega, hs⟩) (fun h => by rw [hlq] at h; cases h)
        | false => exact next s w hC (fun h => by rw [hlq] at h; cases h) (fun _ => rfl)

/-- **A region that draws its order, walked once, in the order of the text.** -/
theorem wp_region_staged {id : Nat} {Q : Exit → Act → World → Prop} {a : Act} {w : World} (is : List StI) (m : Nat) (C : Nat → World → Prop) (hm : P.follows .mixedOrders = true)
    (hB : stB l.toArray is m = true) (hC : C 0 w.drew) (h : wpSt P l.toArray C (fun a' => ∀ w', C m w' → Q .normal a' w') l is a) : (Code.region id l.toArray true).wp P Q a w := by
  have hlen : is.length = l.length := by
    simp only [stB, Bool.and_eq_true, decide_eq_true_eq, List.size_toArray] at hB
    exact hB.2.1
  obtain ⟨vs, h1, h2, h3⟩ := lex_of_wpSt l is a hlen h
  refine wp_region_any hm ?_
  have hrep : ∀ k, (Array.replicate l.toArray.size false).getD k false = false := fun k => getD_replicate_false _ _
  have := wpAny_staged (C := C) (Q := Q) hB h1 h2 h3 l.length (Array.replicate l.toArray.size false) 0 w.drew (by simp) ⟨by simp, fun j o _ hl => (by rw [hrep] at hl; cases hl), fun k i _ _ => by rw [hrep]; simp, Nat.zero_le _⟩ hC
  have e : actL (fun k => (Array.replicate l.toArray.size false).getD k false) l vs 0 a = a := by
    rw [show (fun k => (Array.replicate l.toArray.size false).getD k false) = fun _ => false from funext hrep]
    have : ∀ (l' : List Oper) (vs' : List Value) (k : Nat) (b : Act), actL (fun _ => false) l' vs' k b = b := by
      intro l'
      induction l' with
      | nil => intros; rfl
      | cons o l' ih => intro vs' k b; cases vs' with
        | nil => rfl
        | cons v vs' => simp only [actL, Bool.false_eq_true, if_false]; exact ih _ _ _
    exact this _ _ _ _
  rw [e] at this
  simpa using this
end

/-! ### steps of the walk: the classes as a list -/
def clsOf (Cs : List (World → Prop)) (s : Nat) (w : World) : Prop := match Cs[s]? with | some C => C w | none => False
theorem clsOf_eq {Cs : List (World → Prop)} {s : Nat} {C : World → Prop} (h : Cs[s]? = some C) : clsOf Cs s = C := by
  funext w
  simp only [clsOf, h]

section
variable {P : Program} {ops : Array Oper} {Cs : List (World → Prop)} {Q : Act → Prop} {o : Oper} {rest : List Oper} {is : List StI} {a : Act}

theorem wpSt_nil (h : Q a) : wpSt P ops (clsOf Cs) Q [] [] a := h

/-- An operation that leaves its stage alone, at one stage. -/
theorem wpSt_same {lo : Nat} {C1 : World → Prop} (h1 : Cs[lo]? = some C1) (h : wpQuiet P ops C1 (fun a' => wpSt P ops (clsOf Cs) Q rest is a') [o] a) :
    wpSt P ops (clsOf Cs) Q (o :: rest) (⟨lo, lo, false⟩ :: is) a := by
  unfold wpSt
  by_cases hw : Region.wanted o (yielded ops a.tmps) = true
  · simp only [wpQuiet, hw, if_true] at h ⊢
    obtain ⟨v, hv, hK⟩ := h
    refine ⟨v, ?_, hK⟩
    unfold stepOk
    simp only [Bool.false_eq_true, if_false]
    intro s w hs1 hs2 hC
    have hs : s = lo := by omega
    subst hs
    rw [clsOf_eq h1] at hC ⊢
    exact loud_of_quiet hC (hv w hC)
  · simp only [wpQuiet, hw, Bool.false_eq_true, if_false] at h ⊢
    exact ⟨(fun h' => by cases h'), h⟩

/-- .. at two stages. -/
theorem wpSt_two {lo : Nat} {C1 C2 : World → Prop} (h1 : Cs[lo]? = some C1) (h2 : Cs[lo + 1]? = some C2) (hd : ∃ d, o.dst = some d ∧ d < a.tmps.size)
    (h : wpQuiet P ops C1 (fun a' => wpQuiet P ops C2 (fun a'' => a'' = a' ∧ wpSt P ops (clsOf Cs) Q rest is a') [o] a) [o] a) :
    wpSt P ops (clsOf Cs) Q (o :: rest) (⟨lo, lo + 1, false⟩ :: is) a := by
  unfold wpSt
  by_cases hw : Region.wanted o (yielded ops a.tmps) = true
  · simp only [wpQuiet, hw, if_true] at h ⊢
    obtain ⟨v, hv, u, hu, he, hK⟩ := h
    obtain ⟨d, hd1, hd2⟩ := hd
    have huv : u = v := by
      rw [hd1] at he
      have := congrArg (fun b : Act => b.tmps[d]?) he
      simpa [Act.put, Array.getElem?_setIfInBounds, hd2] using this
    subst huv
    refine ⟨u, ?_, hK⟩
    unfold stepOk
    simp only [Bool.false_eq_true, if_false]
    intro s w hs1 hs2 hC
    have hs : s = lo ∨ s = lo + 1 := by omega
    rcases hs with hs | hs
    · subst hs
      rw [clsOf_eq h1] at hC ⊢
      exact loud_of_quiet hC (hv w hC)
    · subst hs
      rw [clsOf_eq h2] at hC ⊢
      exact loud_of_quiet hC (hu w hC)
  · simp only [wpQuiet, hw, Bool.false_eq_true, if_false] at h ⊢
    exact ⟨(fun h' => by cases h'), h.2⟩

/-- .. at three. -/
theorem wpSt_three {lo : Nat} {C1 C2 C3 : World → Prop} (h1 : Cs[lo]? = some C1) (h2 : Cs[lo + 1]? = some C2) (h3 : Cs[lo + 2]? = some C3) (hd : ∃ d, o.dst = some d ∧ d < a.tmps.size)
    (h : wpQuiet P ops C1 (fun a' => wpQuiet P ops C2 (fun a'' => a'' = a' ∧ wpQuiet P ops C3 (fun a3 => a3 = a' ∧ wpSt P ops (clsOf Cs) Q rest is a') [o] a) [o] a) [o] a) :
    wpSt P ops (clsOf Cs) Q (o :: rest) (⟨lo, lo + 2, false⟩ :: is) a := by
  unfold wpSt
  by_cases hw : Region.wanted o (yielded ops a.tmps) = true
  · simp only [wpQuiet, hw, if_true] at h ⊢
    obtain ⟨v, hv, u, hu, he, u', hu', he', hK⟩ := h
    obtain ⟨d, hd1, hd2⟩ := hd
    have huv : u = v := by
      rw [hd1] at he
      have := congrArg (fun b : Act => b.tmps[d]?) he
      simpa [Act.put, Array.getElem?_setIfInBounds, hd2] using this
    have huv' : u' = v := by
      rw [hd1] at he'
      have := congrArg (fun b : Act => b.tmps[d]?) he'
      simpa [Act.put, Array.getElem?_setIfInBounds, hd2] using this
    subst huv
    subst huv'
    refine ⟨u', ?_, hK⟩
    unfold stepOk
    simp only [Bool.false_eq_true, if_false]
    intro s w hs1 hs2 hC
    have hs : s = lo ∨ s = lo + 1 ∨ s = lo + 2 := by omega
    rcases hs with hs | hs | hs
    · subst hs
      rw [clsOf_eq h1] at hC ⊢
      exact loud_of_quiet hC (hv w hC)
    · subst hs
      rw [clsOf_eq h2] at hC ⊢
      exact loud_of_quiet hC (hu w hC)
    · subst hs
      rw [clsOf_eq h3] at hC ⊢
      exact loud_of_quiet hC (hu' w hC)
  · simp only [wpQuiet, hw, Bool.false_eq_true, if_false] at h ⊢
    exact ⟨(fun h' => by cases h'), h.2.2⟩

/-- A loud operation without a temporary of its own (a store). -/
theorem wpSt_store {lo hi : Nat} {C1 C2 : World → Prop} (h1 : Cs[lo]? = some C1) (h2 : Cs[lo + 1]? = some C2) (hd : o.dst = none) (hg : o.guard = none)
    (h : ∀ w, C1 w → loudAt P o a C2 w undef) (hK : wpSt P ops (clsOf Cs) Q rest is a) : wpSt P ops (clsOf Cs) Q (o :: rest) (⟨lo, hi, true⟩ :: is) a := by
  unfold wpSt
  rw [if_pos (by simp [Region.wanted, hg])]
  refine ⟨undef, ?_, by rw [hd]; exact hK⟩
  unfold stepOk
  simp only [if_true]
  intro w hC
  rw [clsOf_eq h1] at hC
  rw [clsOf_eq h2]
  exact h w hC

/-- A loud operation with one (a call). -/
theorem wpSt_loud {lo hi : Nat} {C1 C2 : World → Prop} (v : Value) (h1 : Cs[lo]? = some C1) (h2 : Cs[lo + 1]? = some C2) (hg : o.guard = none)
    (h : ∀ w, C1 w → loudAt P o a C2 w v) (hK : wpSt P ops (clsOf Cs) Q rest is (a.put o.dst v)) : wpSt P ops (clsOf Cs) Q (o :: rest) (⟨lo, hi, true⟩ :: is) a := by
  unfold wpSt
  rw [if_pos (by simp [Region.wanted, hg])]
  refine ⟨v, ?_, hK⟩
  unfold stepOk
  simp only [if_true]
  intro w hC
  rw [clsOf_eq h1] at hC
  rw [clsOf_eq h2]
  exact h w hC
end

end Go.Proofs.YtgofngilfdnakaaGreat
