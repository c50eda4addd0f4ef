/-
  This text proves what Begin of a session's table does to a table of whatever sessions: under bounds on numbers.
-/
import Derived.Test.YtgofngilfdnakaaSess4
namespace Go.Proofs.Ytgofngilfdnakaa
open Go Go.RowKit
attribute [local go_sem] over_cell over_frozen lt_over le_over noB loudUpon

/-- Where a number stands first. -/
theorem first_of {L : List Nat} {n : Nat} (h : n ∈ L) : ∃ i : Nat, L[i]? = some n ∧ ∀ j : Nat, j < i → L[j]?.getD 0 ≠ n := by
  induction L with
  | nil => cases h
  | cons x r ih =>
    by_cases hx : x = n
    · exact ⟨0, by rw [hx]; rfl, fun j hj => absurd hj (Nat.not_lt_zero _)⟩
    · have hr : n ∈ r := by
        rcases List.mem_cons.1 h with e | e
        · exact absurd e.symm hx
        · exact e
      obtain ⟨i, h1, h2⟩ := ih hr
      refine ⟨i + 1, by simpa using h1, fun j hj => ?_⟩
      cases j with
      | zero => simpa using hx
      | succ j => simpa using h2 j (by omega)
set_option maxRecDepth 100000 in
set_option maxHeartbeats 800000 in
theorem Contains_some (b : Nat) (v : Value) (L : List Nat) (n : Nat) (w : World) (h : Nums w b v L) (hn : n ∈ L) (hL : L.length ≤ 1000) :
    Calls Try.prog 106 #[v, .int .u32 n] w fun e w' => e = .returned (.bool true) ∧ w = w' := by
  obtain ⟨i, h1, h2⟩ := first_of hn
  have HI := Lib.hid (Index_some b v L n i w h h1 h2 hL)
  clear h hn h1 h2
  go_enter Try.func106, Try.ntmps106
  go_wp2_with fail
  refine HI.out.mono ?_
  rintro e w' ⟨rfl, rfl⟩
  go_wp2_with fail
  go_ret
  exact ⟨rfl, rfl⟩

set_option maxRecDepth 100000 in
set_option maxHeartbeats 1600000 in
theorem SBeginG_none (t b k a : Nat) (F : Vs) (s : Int) (n : Nat) (w : World) (h : TabAt w t b k (tabD F) a) (h0 : -9223372036854775808 ≤ s) (h1 : s ≤ 9223372036854775807) (hg : F.get s = none) :
    Calls Try.prog 55 #[.pointer (some ⟨t, 0, none⟩), .int .i64 s, .int .u32 n] w fun e w' => e = .returned (.int .i64 2) ∧ w = w' := by
  have HIS := SIsG_calls t b k a F s w h h0 h1
  rw [hg] at HIS
  have HI := Lib.hid HIS
  clear HIS h hg
  go_enter Try.func55, Try.ntmps55
  go_wp2_with fail
  refine HI.out.mono ?_
  rintro e w' ⟨rfl, rfl⟩
  simp only [Option.isSome_none]
  go_wp2_with fail
  go_ret
  exact ⟨rfl, rfl⟩

set_option maxRecDepth 100000 in
set_option maxHeartbeats 1600000 in
theorem SBeginG_dup (t b k a base : Nat) (F : Vs) (s : Int) (v : Value) (L : List Nat) (n : Nat) (w : World) (h : TabAt w t b k (tabD F) a) (h0 : -9223372036854775808 ≤ s) (h1 : s ≤ 9223372036854775807) (hg : F.get s = some v) (hv : Nums w base v L) (hn : n ∈ L) (hL : L.length ≤ 1000) :
    Calls Try.prog 55 #[.pointer (some ⟨t, 0, none⟩), .int .i64 s, .int .u32 n] w fun e w' => e = .returned (.int .i64 1) ∧ w = w' := by
  have HIS := SIsG_calls t b k a F s w h h0 h1
  rw [hg] at HIS
  simp only [Option.isSome_some] at HIS
  have HI := Lib.hid HIS
  have HCO := Lib.hid (Contains_some base v L n w hv hn hL)
  obtain ⟨ht, hm⟩ := h
  have hl := hm.look1G h0 h1
  rw [hg] at hl
  simp only [Option.getD_some] at hl
  have c0 := cell_heap ht 0
  have tb := lt_heap ht
  simp only [List.getElem?_toArray, List.getElem?_cons_zero] at c0
  obtain ⟨av, cv, rfl, _, _⟩ := hv.shape
  clear hm ht hv hn HIS hg
  go_enter Try.func55, Try.ntmps55
  go_wp2_with (first
    | (go_at_call 57; refine HI.out.mono ?_; rintro e w' ⟨rfl, rfl⟩)
    | (go_at_call 106; refine HCO.out.mono ?_; rintro e w' ⟨rfl, rfl⟩))
  go_ret
  exact ⟨rfl, rfl⟩

set_option maxRecDepth 100000 in
set_option maxHeartbeats 1600000 in
theorem SBeginG_full (t b k a base : Nat) (F : Vs) (s : Int) (v : Value) (L : List Nat) (n : Nat) (w : World) (h : TabAt w t b k (tabD F) a) (h0 : -9223372036854775808 ≤ s) (h1 : s ≤ 9223372036854775807) (hg : F.get s = some v) (hv : Nums w base v L) (hn : n ∉ L) (hL : L.length ≤ 1000) (hq : 4 ≤ L.length ∨ 32 ≤ a) :
    Calls Try.prog 55 #[.pointer (some ⟨t, 0, none⟩), .int .i64 s, .int .u32 n] w fun e w' => e = .returned (.int .i64 (if 4 ≤ L.length then 200 else 201)) ∧ w = w' := by
  have HIS := SIsG_calls t b k a F s w h h0 h1
  rw [hg] at HIS
  simp only [Option.isSome_some] at HIS
  have HI := Lib.hid HIS
  have HCO := Lib.hid (Contains_none base v L n w hv hn hL)
  obtain ⟨ht, hm⟩ := h
  have hl := hm.look1G h0 h1
  rw [hg] at hl
  simp only [Option.getD_some] at hl
  have c0 := cell_heap ht 0
  have c1 := cell_heap ht 1
  have tb := lt_heap ht
  simp only [List.getElem?_toArray, List.getElem?_cons_zero, List.getElem?_cons_succ] at c0 c1
  obtain ⟨av, cv, rfl, _, _⟩ := hv.shape
  clear hm ht hv hn HIS hg
  by_cases h4 : 4 ≤ L.length
  · rw [if_pos h4]
    clear hq
    go_enter Try.func55, Try.ntmps55
    go_wp2_with (first
      | (go_at_call 57; refine HI.out.mono ?_; rintro e w' ⟨rfl, rfl⟩)
      | (go_at_call 106; refine HCO.out.mono ?_; rintro e w' ⟨rfl, rfl⟩))
    go_ret
    exact ⟨rfl, rfl⟩
  · rw [if_neg h4]
    have ha : 32 ≤ a := by omega
    clear hq
    go_enter Try.func55, Try.ntmps55
    go_wp2_with (first
      | (go_at_call 57; refine HI.out.mono ?_; rintro e w' ⟨rfl, rfl⟩)
      | (go_at_call 106; refine HCO.out.mono ?_; rintro e w' ⟨rfl, rfl⟩))
    go_ret
    exact ⟨rfl, rfl⟩

set_option maxRecDepth 100000 in
set_option maxHeartbeats 1600000 in
theorem SBeginG_ok (t b k a base : Nat) (F : Vs) (s : Int) (v : Value) (L : List Nat) (n : Nat) (w : World) (h : TabAt w t b k (tabD F) a) (h0 : -9223372036854775808 ≤ s) (h1 : s ≤ 9223372036854775807) (hg : F.get s = some v) (hv : Nums w base v L) (hn : n ∉ L) (hL : L.length < 4) (ha : a < 32) (hk : k ≤ 900) (hb : base ≤ w.heap.size) (hne : v.ownBlock ≠ some t ∧ v.ownBlock ≠ some b) :
    Calls Try.prog 55 #[.pointer (some ⟨t, 0, none⟩), .int .i64 s, .int .u32 n] w fun e w' => e = .returned (.int .i64 0) ∧ Mod (fun q => q = t ∨ q = b ∨ v.ownBlock = some q) w w' ∧
      ∃ v', TabAt w' t b (k + 1) (tabD (F.put s v')) (a + 1) ∧ Nums w' base v' (L ++ [n]) ∧ v'.ownBlock ≠ some t ∧ v'.ownBlock ≠ some b ∧ (v'.ownBlock = v.ownBlock ∨ ∀ q, v'.ownBlock = some q → w.heap.size ≤ q) := by
  have HIS0 := SIsG_calls t b k a F s w h h0 h1
  rw [hg] at HIS0
  simp only [Option.isSome_some] at HIS0
  have HIS := Lib.hid HIS0
  have HCO := Lib.hid (Contains_none base v L n w hv hn (by omega))
  have htb := tab_ne h
  obtain ⟨ht, hm⟩ := h
  have hbl : b < w.heap.size := World.ownsMap.lt hm
  have lk : ∀ X, MapIs X b k (tabD F) → (Instr.lookup 164 (.map (some b)) (.int .i64 s) false).run Try.prog X = .ok v X := fun X hX => by
    have := hX.look1G h0 h1
    rw [hg] at this
    exact this
  have hl := lk _ hm
  have hm1 : Mod NoB w (w.drew.alloc (.cells #[.int .u32 n] 73)) := (Mod.refl NoB w).drew.alloc _
  have hl0 := lk _ (hm.mod ((Mod.refl NoB w).drew) id)
  have hl1 := lk _ (hm.mod hm1 id)
  have hl2 := lk _ (hm.mod (((Mod.refl NoB w).alloc (.cells #[.int .u32 n] 73)).drew) id)
  have c0 := cell_heap ht 0
  have c1 := cell_heap ht 1
  have tb := lt_heap ht
  simp only [List.getElem?_toArray, List.getElem?_cons_zero, List.getElem?_cons_succ] at c0 c1
  obtain ⟨v2, X1, hrun1, ho1, hg1, hk1⟩ := nums_append 79 (ownsRow_mod hv hm1 (fun _ _ => id)) (heap_alloc_new w.drew _) (by omega) (Nat.le_trans hb hm1.size)
  have hX1 : Mod (fun q => v.ownBlock = some q) w X1 := (hm1.mono (noB_sub _ _)).grown hg1 (fun q hq _ => hq)
  have hne2 : v2.ownBlock ≠ some t ∧ v2.ownBlock ≠ some b := by
    rcases hk1 with e | e
    · rw [e]; exact hne
    · rw [e, size_alloc, heap_drew]; constructor <;> (intro e2; simp only [Option.some.injEq] at e2; omega)
  have hnw : v2.ownBlock = v.ownBlock ∨ ∀ q, v2.ownBlock = some q → w.heap.size ≤ q := by
    rcases hk1 with e | e
    · exact .inl e
    · right
      intro q hq
      rw [e, size_alloc, heap_drew] at hq
      simp only [Option.some.injEq] at hq
      omega
  have htX := (hX1.block t tb hne.1).trans ht
  have hmX := hm.mod hX1 hne.2
  obtain ⟨X2, hrun2, h2, hm2⟩ := hmX.putG h0 h1 (by omega) v2
  have htX2 := (hm2.block t (lt_heap htX) htb).trans htX
  have z1 := cell_heap htX2 1
  have zb := lt_heap htX2
  have zf := frozen_heap htX2
  have x0 := cell_heap htX 0
  have xb := lt_heap htX
  simp only [List.getElem?_toArray, List.getElem?_cons_zero, List.getElem?_cons_succ] at z1 x0
  obtain ⟨a2, n2, hv2, _, _⟩ := ho1.shape
  rw [show (L ++ [n]).length = L.length + 1 by simp] at hv2
  have HO := Lib.hid ho1
  have H2 := Lib.hid h2
  have HM2 := Lib.hid hm2
  have HX1 := Lib.hid hX1
  have HT2 := Lib.hid htX2
  have HNE := Lib.hid hne2
  have HNW := Lib.hid hnw
  have HTB := Lib.hid htb
  obtain ⟨av, cv, rfl, _, _⟩ := hv.shape
  subst hv2
  clear hm ht hv hn hm1 ho1 hg1 hk1 hX1 hne2 htX hmX h2 hm2 htX2 htb hbl hne hnw lk HIS0 hg
  go_enter Try.func55, Try.ntmps55
  go_wp2_with (first
    | (go_at_call 57; refine HIS.out.mono ?_; rintro e w' ⟨rfl, rfl⟩)
    | (go_at_call 106; refine HCO.out.mono ?_; rintro e w' ⟨rfl, rfl⟩))
  refine wp_region_staged [⟨0, 2, false⟩, ⟨0, 2, false⟩, ⟨0, 2, false⟩, ⟨0, 2, false⟩, ⟨0, 2, false⟩, ⟨0, 2, false⟩, ⟨0, 2, false⟩, ⟨0, 2, false⟩, ⟨0, 2, false⟩, ⟨0, 2, false⟩, ⟨0, 1, false⟩, ⟨0, 0, false⟩, ⟨0, 0, true⟩, ⟨1, 1, true⟩, ⟨2, 2, true⟩] 3 (clsOf ((fun W : World => [fun w' => ∃ _ : Unit, w' = W.drew, fun w' => ∃ _ : Unit, w' = W.drew.alloc (.cells #[.int .u32 n] 73), fun w' => ∃ _ : Unit, w' = X1, fun w' => ∃ _ : Unit, w' = X2]) _)) (by kernel_rfl) (by kernel_rfl) (by first | exact Cls.drew _ _ | exact ⟨(), rfl⟩) ?_
  refine wpSt_three rfl rfl rfl ⟨_, rfl, by simp⟩ ?_
  go_big_quiet_step (fail)
  refine wpQuiet_nil ?_
  go_big_quiet_step (fail)
  refine wpQuiet_nil ?_
  refine ⟨rfl, ?_⟩
  go_big_quiet_step (fail)
  refine wpQuiet_nil ?_
  refine ⟨rfl, ?_⟩
  refine wpSt_three rfl rfl rfl ⟨_, rfl, by simp⟩ ?_
  go_big_quiet_step (fail)
  refine wpQuiet_nil ?_
  go_big_quiet_step (fail)
  refine wpQuiet_nil ?_
  refine ⟨rfl, ?_⟩
  go_big_quiet_step (fail)
  refine wpQuiet_nil ?_
  refine ⟨rfl, ?_⟩
  refine wpSt_three rfl rfl rfl ⟨_, rfl, by simp⟩ ?_
  go_big_quiet_step (fail)
  refine wpQuiet_nil ?_
  go_big_quiet_step (fail)
  refine wpQuiet_nil ?_
  refine ⟨rfl, ?_⟩
  go_big_quiet_step (fail)
  refine wpQuiet_nil ?_
  refine ⟨rfl, ?_⟩
  refine wpSt_three rfl rfl rfl ⟨_, rfl, by simp⟩ ?_
  go_big_quiet_step (fail)
  refine wpQuiet_nil ?_
  go_big_quiet_step (fail)
  refine wpQuiet_nil ?_
  refine ⟨rfl, ?_⟩
  go_big_quiet_step (fail)
  refine wpQuiet_nil ?_
  refine ⟨rfl, ?_⟩
  refine wpSt_three rfl rfl rfl ⟨_, rfl, by simp⟩ ?_
  go_big_quiet_step (fail)
  refine wpQuiet_nil ?_
  go_big_quiet_step (fail)
  refine wpQuiet_nil ?_
  refine ⟨rfl, ?_⟩
  go_big_quiet_step (fail)
  refine wpQuiet_nil ?_
  refine ⟨rfl, ?_⟩
  refine wpSt_three rfl rfl rfl ⟨_, rfl, by simp⟩ ?_
  go_big_quiet_step (fail)
  refine wpQuiet_nil ?_
  go_big_quiet_step (fail)
  refine wpQuiet_nil ?_
  refine ⟨rfl, ?_⟩
  go_big_quiet_step (fail)
  refine wpQuiet_nil ?_
  refine ⟨rfl, ?_⟩
  refine wpSt_three rfl rfl rfl ⟨_, rfl, by simp⟩ ?_
  go_big_quiet_step (fail)
  refine wpQuiet_nil ?_
  go_big_quiet_step (fail)
  refine wpQuiet_nil ?_
  refine ⟨rfl, ?_⟩
  go_big_quiet_step (fail)
  refine wpQuiet_nil ?_
  refine ⟨rfl, ?_⟩
  refine wpSt_three rfl rfl rfl ⟨_, rfl, by simp⟩ ?_
  go_big_quiet_step (fail)
  refine wpQuiet_nil ?_
  go_big_quiet_step (fail)
  refine wpQuiet_nil ?_
  refine ⟨rfl, ?_⟩
  go_big_quiet_step (fail)
  refine wpQuiet_nil ?_
  refine ⟨rfl, ?_⟩
  refine wpSt_three rfl rfl rfl ⟨_, rfl, by simp⟩ ?_
  go_big_quiet_step (fail)
  refine wpQuiet_nil ?_
  go_big_quiet_step (fail)
  refine wpQuiet_nil ?_
  refine ⟨rfl, ?_⟩
  go_big_quiet_step (fail)
  refine wpQuiet_nil ?_
  refine ⟨rfl, ?_⟩
  refine wpSt_three rfl rfl rfl ⟨_, rfl, by simp⟩ ?_
  go_big_quiet_step (fail)
  refine wpQuiet_nil ?_
  go_big_quiet_step (fail)
  refine wpQuiet_nil ?_
  refine ⟨rfl, ?_⟩
  go_big_quiet_step (fail)
  refine wpQuiet_nil ?_
  refine ⟨rfl, ?_⟩
  refine wpSt_two rfl rfl ⟨_, rfl, by simp⟩ ?_
  go_big_quiet_step (fail)
  refine wpQuiet_nil ?_
  go_big_quiet_step (fail)
  refine wpQuiet_nil ?_
  refine ⟨rfl, ?_⟩
  refine wpSt_same rfl ?_
  go_big_quiet_step (fail)
  refine wpQuiet_nil ?_
  apply wpSt_loud _ rfl rfl rfl
  · (rintro _ ⟨x, rfl⟩; unfold loudAt; go_simp; first | done | rfl | exact ⟨rfl, rfl⟩ | exact ⟨rfl, ⟨(), rfl⟩⟩)
  simp only [Act.put, List.setIfInBounds_toArray, List.set_cons_succ, List.set_cons_zero]
  apply wpSt_loud _ rfl rfl rfl
  · (rintro _ ⟨x, rfl⟩; exact loudAt_append _ _ _ rfl rfl rfl (by assumption) (by first | exact ⟨(), rfl⟩ | rfl))
  simp only [Act.put, List.setIfInBounds_toArray, List.set_cons_succ, List.set_cons_zero]
  refine wpSt_store rfl rfl rfl rfl ?_ ?_
  · (rintro _ ⟨x, rfl⟩; unfold loudAt; go_simp; first | done | exact ⟨_, rfl⟩)
  refine wpSt_nil ?_
  rintro _ ⟨_, hX⟩
  obtain rfl := hX.symm
  go_wp2
  go_ret
  have hs : Mod (fun q => q = t) X2 (X2.setCell ⟨t, 1, none⟩ (.int .i64 ((a : Int) + 1))) := (Mod.refl _ _).setCell _ _ (fun _ => rfl)
  refine ⟨rfl, ?_, .slice a2 (L.length + 1) n2, ⟨?_, H2.out.mod hs (fun e => HTB.out e.symm)⟩, ownsRow_mod (ownsRow_mod HO.out HM2.out (fun q hq e => HNE.out.2 (e ▸ hq))) hs (fun q hq e => HNE.out.1 (e ▸ hq)), HNE.out.1, HNE.out.2, HNW.out⟩
  · exact ((HX1.out.mono (fun _ _ e => .inr (.inr e))).trans HM2.out (fun _ _ e => .inr (.inl e))).trans hs (fun _ _ e => .inl e)
  · have e : ((a : Int) + 1) = ((a + 1 : Nat) : Int) := by omega
    rw [e, heap_setCell_same, HT2.out]
    rfl

end Go.Proofs.Ytgofngilfdnakaa
