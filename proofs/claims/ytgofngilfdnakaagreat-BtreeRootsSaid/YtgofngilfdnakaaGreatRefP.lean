/-
  This text is plain mathematics: files in a rising list, as the package cupelref03 has them, are the files of the package disk; no condition, no Go.
-/
import Derived.Test.YtgofngilfdnakaaGreatDiskP
import Derived.WideAt
namespace Go.Proofs.YtgofngilfdnakaaGreat
open Go

/-- Rising by their names' bytes. -/
def Sorted (F : Files) : Prop := F.Pairwise fun x y => bytesBefore x.1 y.1 = true
theorem bb_asymm {a b : Str} (h : bytesBefore a b = true) : bytesBefore b a = false := by
  cases hb : bytesBefore b a with
  | false => rfl
  | true =>
    have := WideShapes.bytes_trans _ _ _ h hb
    rw [WideAt.bytes_irrefl] at this
    cases this
theorem bb_ne {a b : Str} (h : bytesBefore a b = true) : a ≠ b := fun e => by
  rw [e, WideAt.bytes_irrefl] at h
  cases h
def rFind (F : Files) (k : Str) : Nat := (F.takeWhile fun e => bytesBefore e.1 k).length
def rIs (F : Files) (k : Str) : Bool := match F[rFind F k]? with
  | some e => e.1 == k
  | none => false
def rPut (F : Files) (k v : Str) : Files := F.take (rFind F k) ++ (k, v) :: F.drop (if rIs F k then rFind F k + 1 else rFind F k)
def rDrop (F : Files) (k : Str) : Files := if rIs F k then F.take (rFind F k) ++ F.drop (rFind F k + 1) else F
def rAt (F : Files) (k : Str) : Str := ((F[rFind F k]?).map (·.2)).getD []
def rDo (F : Files) (c : Chg) : Files :=
  if c.kind = 0 ∧ rIs F c.name = true then rPut F c.name (rAt F c.name ++ c.s)
  else if c.kind < 2 then rPut F c.name c.s
  else if rIs F c.name = false then F
  else if c.kind = 2 then rPut (rDrop F c.name) c.to (rAt F c.name)
  else if c.kind = 3 then rDrop F c.name
  else if c.n < (rAt F c.name).length then rPut F c.name ((rAt F c.name).take c.n.toNat)
  else F

theorem rFind_cons_lt {x : Str × Str} {F : Files} {k : Str} (h : bytesBefore x.1 k = true) : rFind (x :: F) k = rFind F k + 1 := by
  unfold rFind
  rw [List.takeWhile_cons, if_pos h]
  rfl
theorem rFind_cons_ge {x : Str × Str} {F : Files} {k : Str} (h : bytesBefore x.1 k = false) : rFind (x :: F) k = 0 := by
  unfold rFind
  rw [List.takeWhile_cons, if_neg (by rw [h]; decide)]
  rfl
theorem rIs_cons_lt {x : Str × Str} {F : Files} {k : Str} (h : bytesBefore x.1 k = true) : rIs (x :: F) k = rIs F k := by
  unfold rIs
  rw [rFind_cons_lt h, List.getElem?_cons_succ]
theorem rAt_cons_lt {x : Str × Str} {F : Files} {k : Str} (h : bytesBefore x.1 k = true) : rAt (x :: F) k = rAt F k := by
  unfold rAt
  rw [rFind_cons_lt h, List.getElem?_cons_succ]
theorem rIs_cons_ge {x : Str × Str} {F : Files} {k : Str} (h : bytesBefore x.1 k = false) : rIs (x :: F) k = (x.1 == k) := by
  unfold rIs
  rw [rFind_cons_ge h]
  rfl
theorem get_later {F : Files} {k : Str} (h : ∀ y ∈ F, bytesBefore k y.1 = true) : F.get k = none := by
  unfold Files.get
  rw [List.find?_eq_none.2]
  · rfl
  · intro y hy
    have := bb_ne (h y hy)
    simpa using fun e => this e.symm
theorem rIs_get (k : Str) : ∀ F : Files, Sorted F → F.get k = if rIs F k then some (rAt F k) else none
  | [], _ => rfl
  | x :: F, hs => by
    have h2 := List.pairwise_cons.1 hs
    cases hb : bytesBefore x.1 k with
    | true =>
      rw [rIs_cons_lt hb, rAt_cons_lt hb, ← rIs_get k F h2.2]
      unfold Files.get
      rw [List.find?_cons]
      have : (x.1 == k) = false := by simpa using bb_ne hb
      rw [this]
    | false =>
      rw [rIs_cons_ge hb]
      by_cases hk : x.1 = k
      · have h3 : (x.1 == k) = true := by simpa using hk
        rw [h3, if_pos rfl]
        unfold Files.get rAt
        rw [rFind_cons_ge hb, List.find?_cons, h3]
        rfl
      · have h3 : (x.1 == k) = false := by simpa using hk
        rw [h3, if_neg (by decide)]
        have h4 : bytesBefore k x.1 = true := by
          rcases WideAt.bytes_total x.1 k hk with h | h
          · rw [hb] at h; cases h
          · exact h
        exact get_later fun y hy => by
          rcases List.mem_cons.1 hy with rfl | hy
          · exact h4
          · exact WideShapes.bytes_trans _ _ _ h4 (h2.1 y hy)
theorem rIs_has {F : Files} (k : Str) (h : Sorted F) : rIs F k = F.has k := by
  unfold Files.has
  rw [rIs_get k F h]
  cases rIs F k <;> rfl
theorem rAt_val {F : Files} {k : Str} (h : Sorted F) (hi : rIs F k = true) : rAt F k = F.val k := by
  unfold Files.val
  rw [rIs_get k F h, if_pos hi]
  rfl

theorem del_none {F : Files} {k : Str} (h : ∀ y ∈ F, y.1 ≠ k) : F.del k = F := by
  unfold Files.del
  rw [List.filter_eq_self]
  intro y hy
  simpa using h y hy
theorem rDrop_del (k : Str) : ∀ F : Files, Sorted F → rDrop F k = F.del k
  | [], _ => rfl
  | x :: F, hs => by
    have h2 := List.pairwise_cons.1 hs
    cases hb : bytesBefore x.1 k with
    | true =>
      have ih := rDrop_del k F h2.2
      have h3 : Files.del (x :: F) k = x :: Files.del F k := by
        unfold Files.del
        rw [List.filter_cons, if_pos (by simpa using bb_ne hb)]
      rw [h3, ← ih]
      unfold rDrop
      rw [rIs_cons_lt hb, rFind_cons_lt hb]
      split <;> rfl
    | false =>
      have hl : ∀ y ∈ F, y.1 ≠ k := fun y hy e => by
        have h4 := h2.1 y hy
        rw [e, hb] at h4
        cases h4
      unfold rDrop
      rw [rIs_cons_ge hb, rFind_cons_ge hb]
      by_cases hk : x.1 = k
      · have h3 : (x.1 == k) = true := by simpa using hk
        rw [h3, if_pos rfl]
        have h5 : Files.del (x :: F) k = Files.del F k := by
          unfold Files.del
          rw [List.filter_cons, if_neg (by simp [hk])]
        rw [h5, del_none hl]
        rfl
      · have h3 : (x.1 == k) = false := by simpa using hk
        rw [h3, if_neg (by decide), del_none]
        intro y hy
        rcases List.mem_cons.1 hy with rfl | hy
        · exact hk
        · exact hl y hy
theorem rPut_put (k v : Str) : ∀ F : Files, Sorted F → rPut F k v = F.put k v
  | [], _ => rfl
  | x :: F, hs => by
    have h2 := List.pairwise_cons.1 hs
    cases hb : bytesBefore x.1 k with
    | true =>
      have ih := rPut_put k v F h2.2
      have h3 : Files.del (x :: F) k = x :: Files.del F k := by
        unfold Files.del
        rw [List.filter_cons, if_pos (by simpa using bb_ne hb)]
      have h4 : Files.put (x :: F) k v = x :: Files.put F k v := by
        unfold Files.put
        rw [h3, Files.ins, if_neg (by rw [bb_asymm hb]; decide)]
      rw [h4, ← ih]
      unfold rPut
      rw [rIs_cons_lt hb, rFind_cons_lt hb]
      split <;> rfl
    | false =>
      have hl : ∀ y ∈ F, y.1 ≠ k := fun y hy e => by
        have h4 := h2.1 y hy
        rw [e, hb] at h4
        cases h4
      unfold rPut
      rw [rIs_cons_ge hb, rFind_cons_ge hb]
      by_cases hk : x.1 = k
      · have h3 : (x.1 == k) = true := by simpa using hk
        rw [h3, if_pos rfl]
        have h5 : Files.del (x :: F) k = F := by
          unfold Files.del
          rw [List.filter_cons, if_neg (by simp [hk])]
          exact del_none hl
        unfold Files.put
        rw [h5]
        cases F with
        | nil => rfl
        | cons y r =>
          have := h2.1 y List.mem_cons_self
          rw [hk] at this
          rw [Files.ins, if_pos this]
          rfl
      · have h3 : (x.1 == k) = false := by simpa using hk
        have h4 : bytesBefore k x.1 = true := by
          rcases WideAt.bytes_total x.1 k hk with h | h
          · rw [hb] at h; cases h
          · exact h
        have h5 : Files.del (x :: F) k = x :: F := del_none fun y hy => by
          rcases List.mem_cons.1 hy with rfl | hy
          · exact hk
          · exact hl y hy
        rw [h3]
        unfold Files.put
        rw [h5, Files.ins, if_pos h4]
        rfl
theorem ins_mem (x : Str × Str) : ∀ (F : Files) (y : Str × Str), y ∈ Files.ins x F → y = x ∨ y ∈ F
  | [], y, h => .inl (by simpa [Files.ins] using h)
  | z :: F, y, h => by
    unfold Files.ins at h
    split at h
    · rcases List.mem_cons.1 h with h | h
      · exact .inl h
      · exact .inr h
    · rcases List.mem_cons.1 h with h | h
      · exact .inr (by rw [h]; exact List.mem_cons_self)
      · rcases ins_mem x F y h with h | h
        · exact .inl h
        · exact .inr (List.mem_cons_of_mem _ h)
theorem ins_sorted (x : Str × Str) : ∀ F : Files, Sorted F → (∀ y ∈ F, y.1 ≠ x.1) → Sorted (Files.ins x F)
  | [], _, _ => List.pairwise_singleton _ _
  | z :: F, hs, hn => by
    have h2 := List.pairwise_cons.1 hs
    unfold Files.ins
    split
    · rename_i hb
      refine List.pairwise_cons.2 ⟨fun y hy => ?_, hs⟩
      rcases List.mem_cons.1 hy with rfl | hy
      · exact hb
      · exact WideShapes.bytes_trans _ _ _ hb (h2.1 y hy)
    · rename_i hb
      have h3 : bytesBefore z.1 x.1 = true := by
        rcases WideAt.bytes_total z.1 x.1 (hn z List.mem_cons_self) with h | h
        · exact h
        · exact absurd h hb
      refine List.pairwise_cons.2 ⟨fun y hy => ?_, ins_sorted x F h2.2 (fun y hy => hn y (List.mem_cons_of_mem _ hy))⟩
      rcases ins_mem x F y hy with rfl | hy
      · exact h3
      · exact h2.1 y hy
theorem del_sorted {F : Files} (k : Str) (h : Sorted F) : Sorted (F.del k) := h.sublist List.filter_sublist
theorem put_sorted {F : Files} (k v : Str) (h : Sorted F) : Sorted (F.put k v) := by
  refine ins_sorted _ _ (del_sorted k h) fun y hy => ?_
  have := (List.mem_filter.1 hy).2
  simpa using this
theorem act_sorted {F : Files} (c : Chg) (h : Sorted F) : Sorted (F.act c) := by
  unfold Files.act
  split
  · exact put_sorted _ _ h
  · split
    · exact put_sorted _ _ h
    · split
      · split
        · exact del_sorted _ (put_sorted _ _ h)
        · exact h
      · split
        · exact del_sorted _ h
        · split
          · split
            · exact put_sorted _ _ h
            · exact h
          · exact h
theorem acts_sorted : ∀ (l : List Chg) (F : Files), Sorted F → Sorted (l.foldl Files.act F)
  | [], _, h => h
  | c :: l, _, h => acts_sorted l _ (act_sorted c h)

theorem get_none_mem {F : Files} {k : Str} (h : F.get k = none) : ∀ y ∈ F, y.1 ≠ k := fun y hy e => by
  unfold Files.get at h
  rw [Option.map_eq_none_iff, List.find?_eq_none] at h
  have := h y hy
  simp [e] at this
/-- Two rising lists with the same files are the same. -/
theorem files_ext : ∀ {F G : Files}, Sorted F → Sorted G → (∀ k, F.get k = G.get k) → F = G
  | [], [], _, _, _ => rfl
  | [], y :: G, _, _, h => by
    have := h y.1
    simp [Files.get] at this
  | x :: F, [], _, _, h => by
    have := h x.1
    simp [Files.get] at this
  | x :: F, y :: G, hF, hG, h => by
    have f2 := List.pairwise_cons.1 hF
    have g2 := List.pairwise_cons.1 hG
    have e : x.1 = y.1 := by
      apply Classical.byContradiction
      intro hne
      rcases WideAt.bytes_total x.1 y.1 hne with hb | hb
      · have h1 := h x.1
        have h3 : Files.get (y :: G) x.1 = none := get_later fun z hz => by
          rcases List.mem_cons.1 hz with rfl | hz
          · exact hb
          · exact WideShapes.bytes_trans _ _ _ hb (g2.1 z hz)
        rw [h3] at h1
        exact get_none_mem h1 x List.mem_cons_self rfl
      · have h1 := h y.1
        have h3 : Files.get (x :: F) y.1 = none := get_later fun z hz => by
          rcases List.mem_cons.1 hz with rfl | hz
          · exact hb
          · exact WideShapes.bytes_trans _ _ _ hb (f2.1 z hz)
        rw [h3] at h1
        exact get_none_mem h1.symm y List.mem_cons_self rfl
    have e2 : x.2 = y.2 := by
      have h1 := h x.1
      unfold Files.get at h1
      rw [List.find?_cons, List.find?_cons] at h1
      have h3 : (y.1 == x.1) = true := by simpa using e.symm
      rw [h3] at h1
      simpa using h1
    have e3 : F = G := files_ext f2.2 g2.2 fun k => by
      by_cases hk : k = x.1
      · subst hk
        rw [get_later f2.1, get_later (by rw [e]; exact g2.1)]
      · have h1 := h k
        unfold Files.get at h1 ⊢
        rw [List.find?_cons, List.find?_cons] at h1
        have h3 : (x.1 == k) = false := by simpa using fun e => hk e.symm
        have h4 : (y.1 == k) = false := by rw [← e]; exact h3
        rw [h3, h4] at h1
        exact h1
    rw [show x = y from Prod.ext e e2, e3]

theorem rDo_act {F : Files} {c : Chg} (h : Sorted F) (h2 : c.kind = 2 → c.name ≠ c.to) (h4 : c.kind = 4 → 0 ≤ c.n) (h5 : c.kind ≤ 4) : rDo F c = F.act c := by
  unfold rDo Files.act
  rw [rIs_has c.name h]
  by_cases k0 : c.kind = 0
  · rw [if_pos k0]
    cases hh : F.has c.name with
    | true =>
      rw [if_pos ⟨k0, rfl⟩, rPut_put _ _ _ h, rAt_val h (by rw [rIs_has c.name h, hh])]
    | false =>
      rw [if_neg (fun e => by cases e.2), if_pos (by omega), rPut_put _ _ _ h]
      have : F.val c.name = [] := by
        unfold Files.val
        unfold Files.has at hh
        cases hg : F.get c.name with
        | none => rfl
        | some v => rw [hg] at hh; cases hh
      rw [this]
      rfl
  · rw [if_neg (fun e => k0 e.1), if_neg k0]
    by_cases k1 : c.kind = 1
    · rw [if_pos (by omega), if_pos k1, rPut_put _ _ _ h]
    · rw [if_neg (by omega), if_neg k1]
      have k3' : c.kind = 2 ∨ c.kind = 3 ∨ c.kind = 4 := by omega
      cases hh : F.has c.name with
      | false =>
        have hn : F.get c.name = none := by
          unfold Files.has at hh
          cases hg : F.get c.name with
          | none => rfl
          | some v => rw [hg] at hh; cases hh
        rw [if_pos rfl]
        by_cases k2 : c.kind = 2
        · rw [if_pos k2, if_neg (by decide)]
        · rw [if_neg k2]
          by_cases k3 : c.kind = 3
          · rw [if_pos k3, del_none (get_none_mem hn)]
          · rw [if_neg k3, if_pos (by omega), if_neg (by decide)]
      | true =>
        have hat := rAt_val h (by rw [rIs_has c.name h, hh] : rIs F c.name = true)
        rw [if_neg (by decide), hat]
        by_cases k2 : c.kind = 2
        · rw [if_pos k2, if_pos k2, if_pos rfl, rDrop_del _ _ h, rPut_put _ _ _ (del_sorted _ h)]
          refine files_ext (put_sorted _ _ (del_sorted _ h)) (del_sorted _ (put_sorted _ _ h)) fun k => ?_
          have hne := h2 k2
          rw [Files.get_put, Files.get_del, Files.get_del, Files.get_put]
          by_cases e1 : k = c.to
          · rw [if_pos e1, if_neg (by rw [e1]; exact fun e => hne e.symm), if_pos e1]
          · rw [if_neg e1, if_neg e1]
        · rw [if_neg k2, if_neg k2]
          by_cases k3 : c.kind = 3
          · rw [if_pos k3, if_pos k3, rDrop_del _ _ h]
          · have k4 : c.kind = 4 := by omega
            have hn0 := h4 k4
            rw [if_neg k3, if_neg k3, if_pos k4, if_pos rfl]
            by_cases hlt : c.n < (F.val c.name).length
            · rw [if_pos hlt, rPut_put _ _ _ h]
              congr 2
              omega
            · rw [if_neg hlt]
              have e : (F.val c.name).take (min c.n (F.val c.name).length).toNat = F.val c.name := by
                rw [List.take_of_length_le]
                omega
              rw [e]
              refine files_ext h (put_sorted _ _ h) fun k => ?_
              rw [Files.get_put]
              by_cases e1 : k = c.name
              · rw [if_pos e1, e1]
                unfold Files.val Files.has at *
                cases hg : F.get c.name with
                | none => rw [hg] at hh; cases hh
                | some v => rfl
              · rw [if_neg e1]

end Go.Proofs.YtgofngilfdnakaaGreat
