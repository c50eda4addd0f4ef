/-
  This text is plain mathematics: a disk of the package disk beside one of cupelref03's, for changes without room or falls; no Go.
-/
import Derived.Test.YtgofngilfdnakaaRefJ
import Derived.Test.YtgofngilfdnakaaRefI
import Derived.Test.YtgofngilfdnakaaDiskS
namespace Go.Proofs.Ytgofngilfdnakaa
open Go Go.RowKit

/-- A change as the disk keeps it. -/
def Chg.norm (c : Chg) : Chg :=
  if c.kind < 2 then ⟨c.kind, c.name, [], c.s, 0⟩ else if c.kind = 2 then ⟨2, c.name, c.to, [], 0⟩ else if c.kind = 3 then ⟨3, c.name, [], [], 0⟩ else ⟨c.kind, c.name, [], [], c.n⟩
theorem norm_kind (c : Chg) : c.norm.kind = c.kind := by
  unfold Chg.norm
  split
  · rfl
  · split
    · rename_i h; exact h.symm
    · split
      · rename_i h; exact h.symm
      · rfl
theorem norm_name (c : Chg) : c.norm.name = c.name := by
  unfold Chg.norm
  repeat (first | rfl | split)
theorem norm_s (c : Chg) : c.norm.s.length ≤ c.s.length := by
  unfold Chg.norm
  repeat (first | exact Nat.le_refl _ | exact Nat.zero_le _ | split)
theorem norm_to {c : Chg} (h : c.kind = 2) : c.norm.to = c.to := by
  unfold Chg.norm
  rw [if_neg (by omega), if_pos h]
theorem act_norm (F : Files) (c : Chg) : F.act c.norm = F.act c := by
  obtain ⟨kd, a, b, s, n⟩ := c
  rcases kd with _ | _ | _ | _ | kd
  · rfl
  · rfl
  · rfl
  · rfl
  · unfold Chg.norm
    rw [if_neg (by simp), if_neg (by simp), if_neg (by simp)]
    rfl
theorem acts_norm : ∀ (L : List Chg) (F : Files), (L.map Chg.norm).foldl Files.act F = L.foldl Files.act F
  | [], _ => rfl
  | c :: L, F => by
    rw [List.map_cons, List.foldl_cons, List.foldl_cons, act_norm, acts_norm L]
theorem surv_norm (keep : Int) : ∀ (L : List Chg) (i : Nat), surv keep 0 i (L.map Chg.norm) = (keptL keep i L).map Chg.norm
  | [], _ => rfl
  | c :: L, i => by
    have ih := surv_norm keep L (i + 1)
    rw [List.map_cons]
    unfold surv keptL
    cases kept keep i with
    | true => rw [if_pos rfl, if_pos rfl, List.map_cons, ih]
    | false =>
      simp only [Bool.false_eq_true, if_false]
      rw [if_pos (by omega), ih]
theorem kept_zero (i : Nat) : kept 0 i = false := by
  unfold kept
  simp
theorem keptL_zero : ∀ (L : List Chg) (i : Nat), keptL 0 i L = []
  | [], _ => rfl
  | c :: L, i => by
    unfold keptL
    rw [kept_zero, if_neg (by decide), keptL_zero L]

/-- Names that may be. -/
def NmF (F : Files) : Prop := ∀ x ∈ F, nameOk x.1 = true
def NmC (c : Chg) : Prop := nameOk c.name = true ∧ (c.kind = 2 → nameOk c.to = true)
theorem nm_ins {x : Str × Str} : ∀ {F : Files}, nameOk x.1 = true → NmF F → NmF (Files.ins x F)
  | [], hx, _ => fun y hy => by rw [List.mem_singleton.1 hy]; exact hx
  | z :: F, hx, h => fun y hy => by
    unfold Files.ins at hy
    split at hy
    · rcases List.mem_cons.1 hy with rfl | hy
      · exact hx
      · exact h y hy
    · rcases List.mem_cons.1 hy with rfl | hy
      · exact h _ List.mem_cons_self
      · exact nm_ins hx (fun y hy => h y (List.mem_cons_of_mem _ hy)) y hy
theorem nm_del {F : Files} (k : Str) (h : NmF F) : NmF (F.del k) := fun y hy => h y (List.mem_filter.1 hy).1
theorem nm_put {F : Files} {k : Str} (v : Str) (hk : nameOk k = true) (h : NmF F) : NmF (F.put k v) := nm_ins hk (nm_del k h)
theorem nm_act {F : Files} {c : Chg} (h : NmF F) (hc : NmC c) : NmF (F.act c) := by
  unfold Files.act
  split
  · exact nm_put _ hc.1 h
  · split
    · exact nm_put _ hc.1 h
    · split
      · rename_i h2
        split
        · exact nm_del _ (nm_put _ (hc.2 h2) h)
        · exact h
      · split
        · exact nm_del _ h
        · split
          · split
            · exact nm_put _ hc.1 h
            · exact h
          · exact h
theorem nm_acts : ∀ {L : List Chg} {F : Files}, NmF F → (∀ c ∈ L, NmC c) → NmF (L.foldl Files.act F)
  | [], _, h, _ => h
  | c :: L, _, h, hc => nm_acts (L := L) (nm_act h (hc c List.mem_cons_self)) (fun x hx => hc x (List.mem_cons_of_mem _ hx))
theorem get_mem : ∀ {F : Files}, Sorted F → ∀ x ∈ F, F.get x.1 = some x.2
  | [], _, x, hx => by cases hx
  | y :: F, hs, x, hx => by
    have h2 := List.pairwise_cons.1 hs
    unfold Files.get
    rw [List.find?_cons]
    rcases List.mem_cons.1 hx with rfl | hx
    · simp
    · have hne : (y.1 == x.1) = false := by simpa using bb_ne (h2.1 x hx)
      rw [hne]
      exact get_mem h2.2 x hx

/-- The disk is what the document's says. -/
structure BR (d : Dk) (F : Files) (L : List Chg) (ch : Nat) : Prop where
  sure : d.sure = F
  now : d.now = L.foldl Files.act F
  loose : d.loose = L.map Chg.norm
  changes : d.changes = ch
  room : d.room = -1
  falls : d.falls = none
  up : d.down = false
  sorted : Sorted F
  ok : ∀ c ∈ L, OkR c
  nmF : NmF F
  nmL : ∀ c ∈ L, NmC c
/-- How much there may be. -/
structure BB (F : Files) (L : List Chg) (ch k : Nat) : Prop where
  len : F.length + L.length ≤ k
  size : F.size + 60 * L.length ≤ 60 * k
  changes : ch ≤ k
theorem BB.mono {F : Files} {L : List Chg} {ch k k' : Nat} (h : BB F L ch k) (hk : k ≤ k') : BB F L ch k' := ⟨by have := h.len; omega, by have := h.size; omega, by have := h.changes; omega⟩

theorem BR.commit {d : Dk} {F : Files} {L : List Chg} {ch : Nat} (h : BR d F L ch) (c : Chg) (hc : OkR c) (hn : NmC c) : (d.commit c.norm).1 = 0 ∧ BR (d.commit c.norm).2 F (L ++ [c]) (ch + 1) := by
  unfold Dk.commit
  rw [h.falls]
  refine ⟨rfl, h.sure, ?_, ?_, ?_, h.room, rfl, h.up, h.sorted, ?_, h.nmF, ?_⟩
  · show d.now.act c.norm = _
    rw [act_norm, h.now, List.foldl_append]
    rfl
  · show d.loose ++ [c.norm] = _
    rw [h.loose, List.map_append]
    rfl
  · show d.changes + 1 = _
    rw [h.changes]
  · intro x hx
    rcases List.mem_append.1 hx with hx | hx
    · exact h.ok x hx
    · rw [List.mem_singleton.1 hx]; exact hc
  · intro x hx
    rcases List.mem_append.1 hx with hx | hx
    · exact h.nmL x hx
    · rw [List.mem_singleton.1 hx]; exact hn
theorem BR.nowS {d : Dk} {F : Files} {L : List Chg} {ch : Nat} (h : BR d F L ch) : Sorted d.now := by
  rw [h.now]
  exact acts_sorted _ _ h.sorted
theorem BR.may1 {d : Dk} {F : Files} {L : List Chg} {ch : Nat} (h : BR d F L ch) (must : Bool) (a : Str) (l : List Str) (hn : (a :: l).any (fun s => !nameOk s) = false) (hi : must = true → rIs d.now a = true) : d.may must (a :: l) = 0 := by
  unfold Dk.may
  rw [h.up, hn, if_neg (by decide), if_neg (by decide), if_neg]
  cases must with
  | false => simp
  | true =>
    rw [List.headD_cons, ← rIs_has a h.nowS, hi rfl]
    decide
theorem BR.may2 {d : Dk} {F : Files} {L : List Chg} {ch : Nat} (h : BR d F L ch) (a : Str) (l : List Str) (hi : rIs d.now a = false) : d.may true (a :: l) ≠ 0 := by
  unfold Dk.may
  rw [h.up, if_neg (by decide)]
  split
  · decide
  · rw [List.headD_cons, ← rIs_has a h.nowS, hi]
    decide
theorem BR.nowN {d : Dk} {F : Files} {L : List Chg} {ch : Nat} (h : BR d F L ch) : NmF d.now := by
  rw [h.now]
  exact nm_acts h.nmF h.nmL
theorem BR.read {d : Dk} {F : Files} {L : List Chg} {ch : Nat} (h : BR d F L ch) (x : Str × Str) (hx : x ∈ d.now) : d.read x.1 = (x.2, 0) := by
  have hg := get_mem h.nowS x hx
  have hi : rIs d.now x.1 = true := by
    rw [rIs_has x.1 h.nowS]
    unfold Files.has
    rw [hg]
    rfl
  unfold Dk.read
  rw [h.may1 true x.1 [] (by simp [h.nowN x hx]) (fun _ => hi), if_neg (by decide)]
  unfold Files.val
  rw [hg]
  rfl
/-- The bytes a change brings. -/
def fs (kd : Nat) (s : Str) : Str := if 1 < kd then [] else few3 s
theorem fs_len (kd : Nat) (s : Str) : (fs kd s).length ≤ 60 := by
  unfold fs few3
  split
  · simp
  · rw [List.length_take]; omega
theorem BR.chg {d : Dk} {F : Files} {L : List Chg} {ch : Nat} (h : BR d F L ch) (kd : Nat) (hk : kd ≤ 4) (a b s : Str) (n : Int) :
    (chErr d.now ⟨kd, a, b, fs kd s, n⟩ ≠ 0 ∧ (d.chg kd a b s n).2 = d) ∨ (chErr d.now ⟨kd, a, b, fs kd s, n⟩ = 0 ∧ BR (d.chg kd a b s n).2 F (L ++ [⟨kd, a, b, fs kd s, n⟩]) (ch + 1)) := by
  by_cases he : chErr d.now ⟨kd, a, b, fs kd s, n⟩ = 0
  · refine .inr ⟨he, ?_⟩
    obtain ⟨g1, g2, g3, g4⟩ := chErr_ok he
    have hn1 : [a].any (fun s => !nameOk s) = false := by simp [g1]
    have hc : OkR ⟨kd, a, b, fs kd s, n⟩ := ⟨hk, fun e => (g2 e).2, fun e => (g4 e).1, fs_len kd s⟩
    have hcm := (h.commit _ hc ⟨g1, fun e => (g2 e).1⟩).2
    rcases kd with _ | _ | _ | _ | _ | kd
    · show BR (d.append a (few3 s)).2 _ _ _
      unfold Dk.append
      rw [h.may1 false a [] hn1 (fun e => by cases e), if_neg (by decide), if_neg (by unfold Dk.fits; simp [h.room])]
      exact hcm
    · show BR (d.write a (few3 s)).2 _ _ _
      unfold Dk.write
      rw [h.may1 false a [] hn1 (fun e => by cases e), if_neg (by decide), if_neg (by unfold Dk.fits; simp [h.room])]
      exact hcm
    · show BR (d.move a b).2 _ _ _
      unfold Dk.move
      rw [h.may1 true a [b] (by simp [g1, (g2 rfl).1]) (fun _ => g3 (by decide)), if_neg (by decide), if_neg (g2 rfl).2]
      exact hcm
    · show BR (d.remove a).2 _ _ _
      unfold Dk.remove
      rw [h.may1 true a [] hn1 (fun _ => g3 (by decide)), if_neg (by decide)]
      exact hcm
    · show BR (d.truncate a n).2 _ _ _
      have g5 := g4 rfl
      rw [rAt_val h.nowS (g3 (by decide))] at g5
      unfold Dk.truncate
      rw [h.may1 true a [] hn1 (fun _ => g3 (by decide)), if_neg (by decide), if_neg (by omega)]
      exact hcm
    · omega
  · refine .inl ⟨he, ?_⟩
    have key : ∀ (must : Bool) (l : List Str) (x y : Int × Dk), d.may must l ≠ 0 → y = (d.may must l, d) → (if d.may must l ≠ 0 then y else x).2 = d := fun must l x y h1 h2 => by rw [if_pos h1, h2]
    unfold chErr at he
    simp only at he
    by_cases h1 : nameOk a = false ∨ (kd = 2 ∧ nameOk b = false)
    · have hbad : kd = 2 ∨ nameOk a = false := by rcases h1 with h1 | h1; exact .inr h1; exact .inl h1.1
      rcases kd with _ | _ | _ | _ | _ | kd
      · have h2 : nameOk a = false := by rcases hbad with h | h; omega; exact h
        show (d.append a (few3 s)).2 = d
        unfold Dk.append
        rw [may_off h.up (by simp [h2]), if_pos (by decide)]
      · have h2 : nameOk a = false := by rcases hbad with h | h; omega; exact h
        show (d.write a (few3 s)).2 = d
        unfold Dk.write
        rw [may_off h.up (by simp [h2]), if_pos (by decide)]
      · show (d.move a b).2 = d
        unfold Dk.move
        rw [may_off h.up (by rcases h1 with h1 | h1; simp [h1]; simp [h1.2]), if_pos (by decide)]
      · have h2 : nameOk a = false := by rcases hbad with h | h; omega; exact h
        show (d.remove a).2 = d
        unfold Dk.remove
        rw [may_off h.up (by simp [h2]), if_pos (by decide)]
      · have h2 : nameOk a = false := by rcases hbad with h | h; omega; exact h
        show (d.truncate a n).2 = d
        unfold Dk.truncate
        rw [may_off h.up (by simp [h2]), if_pos (by decide)]
      · omega
    · rw [if_neg h1] at he
      by_cases h2 : 1 < kd ∧ rIs d.now a = false
      · obtain ⟨h2, h3⟩ := h2
        rcases kd with _ | _ | _ | _ | _ | kd
        · omega
        · omega
        · show (d.move a b).2 = d
          unfold Dk.move
          rw [if_pos (h.may2 a [b] h3)]
        · show (d.remove a).2 = d
          unfold Dk.remove
          rw [if_pos (h.may2 a [] h3)]
        · show (d.truncate a n).2 = d
          unfold Dk.truncate
          rw [if_pos (h.may2 a [] h3)]
        · omega
      · rw [if_neg h2] at he
        by_cases h3 : (kd = 2 ∧ a = b) ∨ (kd = 4 ∧ (n < 0 ∨ ((rAt d.now a).length : Int) < n))
        · have hi : 1 < kd → rIs d.now a = true := fun hk => by
            cases e : rIs d.now a with
            | true => rfl
            | false => exact absurd ⟨hk, e⟩ h2
          have hna : nameOk a = true := by
            cases e : nameOk a with
            | true => rfl
            | false => exact absurd (.inl e) h1
          rcases h3 with ⟨rfl, h3⟩ | ⟨rfl, h3⟩
          · have hnb : nameOk b = true := by
              cases e : nameOk b with
              | true => rfl
              | false => exact absurd (.inr ⟨rfl, e⟩) h1
            show (d.move a b).2 = d
            unfold Dk.move
            rw [h.may1 true a [b] (by simp [hna, hnb]) (fun _ => hi (by decide)), if_neg (by decide), if_pos h3]
          · rw [rAt_val h.nowS (hi (by decide))] at h3
            show (d.truncate a n).2 = d
            unfold Dk.truncate
            rw [h.may1 true a [] (by simp [hna]) (fun _ => hi (by decide)), if_neg (by decide), if_pos (by omega)]
        · rw [if_neg h3] at he
          exact absurd rfl he
theorem BB.chg {F : Files} {L : List Chg} {ch k : Nat} (h : BB F L ch k) (c : Chg) : BB F (L ++ [c]) (ch + 1) (k + 1) :=
  ⟨by have := h.len; rw [List.length_append]; simp only [List.length_cons, List.length_nil]; omega, by have := h.size; rw [List.length_append]; simp only [List.length_cons, List.length_nil]; omega, by have := h.changes; omega⟩
theorem BR.sync {d : Dk} {F : Files} {L : List Chg} {ch : Nat} (h : BR d F L ch) : d.sync.1 = 0 ∧ BR d.sync.2 (L.foldl Files.act F) [] ch := by
  unfold Dk.sync
  rw [h.up, if_neg (by decide)]
  exact ⟨rfl, h.now, h.now, rfl, h.changes, h.room, h.falls, rfl, acts_sorted _ _ h.sorted, (fun c hc => by cases hc), nm_acts h.nmF h.nmL, (fun c hc => by cases hc)⟩
theorem BB.sync {d : Dk} {F : Files} {L : List Chg} {ch k : Nat} (h : BB F L ch k) (hr : BR d F L ch) : BB (L.foldl Files.act F) [] ch k := by
  obtain ⟨h1, h2⟩ := acts_bounds (F := F) hr.ok
  exact ⟨by have := h.len; simp only [List.length_nil]; omega, by have := h.size; simp only [List.length_nil]; omega, h.changes⟩
theorem BR.crash {d : Dk} {F : Files} {L : List Chg} {ch : Nat} (h : BR d F L ch) (keep : Int) : BR { d.crash keep 0 with down := false } ((keptL keep 0 L).foldl Files.act F) [] ch := by
  unfold Dk.crash
  rw [h.up, if_neg (by decide)]
  have e : (surv keep 0 0 d.loose).foldl Files.act d.sure = (keptL keep 0 L).foldl Files.act F := by rw [h.loose, surv_norm, acts_norm, h.sure]
  exact ⟨e, e, rfl, h.changes, h.room, h.falls, rfl, acts_sorted _ _ h.sorted, (fun c hc => by cases hc), nm_acts h.nmF (fun c hc => h.nmL c ((keptL_sub keep L 0).subset hc)), (fun c hc => by cases hc)⟩
theorem BB.crash {d : Dk} {F : Files} {L : List Chg} {ch k : Nat} (h : BB F L ch k) (hr : BR d F L ch) (keep : Int) : BB ((keptL keep 0 L).foldl Files.act F) [] ch k := by
  have hs := keptL_sub keep L 0
  obtain ⟨h1, h2⟩ := acts_bounds (F := F) (fun c hc => hr.ok c (hs.subset hc))
  have := hs.length_le
  exact ⟨by have := h.len; simp only [List.length_nil]; omega, by have := h.size; simp only [List.length_nil]; omega, h.changes⟩
theorem BR.fit {d : Dk} {F : Files} {L : List Chg} {ch k : Nat} (h : BR d F L ch) (hb : BB F L ch k) (hk : k ≤ 1000) : Fit d (60 * k) := by
  obtain ⟨h1, h2⟩ := acts_bounds (F := F) h.ok
  have hl := hb.len
  have hs := hb.size
  have hsum : ∀ L : List Chg, (∀ c ∈ L, OkR c) → sumS (L.map Chg.norm) ≤ 60 * L.length := fun L => by
    induction L with
    | nil => intro _; exact Nat.le_refl _
    | cons c L ih =>
      intro hok
      rw [List.map_cons, sumS_cons, List.length_cons]
      have h3 := ih (fun x hx => hok x (List.mem_cons_of_mem _ hx))
      have h4 := (hok c List.mem_cons_self).s
      have h5 := norm_s c
      omega
  have hch := hb.changes
  refine ⟨⟨?_, ?_, ?_, ?_, ?_, ?_⟩, by omega, by rw [h.room]; omega, by rw [h.room]; omega⟩
  · rw [h.now]; omega
  · rw [h.now]; omega
  · rw [h.sure, h.loose, List.length_map]; omega
  · have := hsum L h.ok
    rw [h.sure, h.loose]; omega
  · intro c hc hk2
    rw [h.loose] at hc
    obtain ⟨x, hx, rfl⟩ := List.mem_map.1 hc
    rw [norm_kind] at hk2
    rw [norm_name, norm_to hk2]
    exact (h.ok x hx).two hk2
  · rw [h.changes]; omega

end Go.Proofs.Ytgofngilfdnakaa
