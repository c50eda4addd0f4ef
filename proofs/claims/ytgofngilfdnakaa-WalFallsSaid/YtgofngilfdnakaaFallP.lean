/-
  This text is plain mathematics: what the law WalFalls goes through, step by step, on a disk that may lose power; no condition, no Go.
-/
import Derived.Test.YtgofngilfdnakaaPlayP
namespace Go.Proofs.Ytgofngilfdnakaa
open Go

/-- A log's file, or none, and an unfinished one, or none. -/
def fs2 : Option Str → Option Str → Files
  | none, none => []
  | some s, none => [(logName, s)]
  | none, some t => [(freshName, t)]
  | some s, some t => [(logName, s), (freshName, t)]
/-- The disk of that law: all is sure. -/
def fd (c : Nat) (o x : Option Str) (fl : Option Fall) (dn : Bool) : Dk := ⟨fs2 o x, fs2 o x, [], -1, fl, c, dn⟩
theorem fd_pd (c : Nat) (o : Option Str) : fd c o none none false = pd c o := by cases o <;> rfl
theorem fd_crash (c : Nat) (o x : Option Str) (fl : Option Fall) (dn : Bool) (k t : Int) : (fd c o x fl dn).crash k t = fd c o x fl true := by cases dn <;> rfl
theorem fd_fit {c : Nat} {o x : Option Str} {fl : Option Fall} {dn : Bool} {N : Nat} (h1 : (o.getD []).length + (x.getD []).length + c + 2 ≤ N) (h2 : N ≤ 400000000) : Fit (fd c o x fl dn) N := by
  refine ⟨⟨?_, ?_, ?_, ?_, fun c hc => (by cases hc), ?_⟩, h2, by simp [fd], by simp [fd]⟩
  all_goals (cases o <;> cases x <;> simp [fd, fs2, Files.size, sumS] at h1 ⊢ <;> omega)
theorem commit_some {d : Dk} {f : Fall} (h : d.falls = some f) (c : Chg) : d.commit c = if f.pos = d.changes then (7, { d with falls := none }.crash f.keep f.torn) else (0, { d with changes := d.changes + 1, now := d.now.act c, loose := d.loose ++ [c] }) := by
  unfold Dk.commit
  rw [h]
/-- A change on such a disk. -/
theorem fd_change (c : Nat) (o x : Option Str) (fl : Option Fall) (ch : Chg) : (fd c o x fl false).commit ch = (7, fd c o x none true) ∨ (fd c o x fl false).commit ch = (0, ⟨(fs2 o x).act ch, fs2 o x, [ch], -1, fl, c + 1, false⟩) := by
  cases fl with
  | none => exact .inr rfl
  | some f =>
    rw [commit_some (d := fd c o x (some f) false) (f := f) rfl]
    by_cases hp : f.pos = ((fd c o x (some f) false).changes : Int)
    · left; rw [if_pos hp]; rfl
    · right; rw [if_neg hp]; rfl
theorem fd_commit (c : Nat) (o : Option Str) (fl : Option Fall) (g : Lg) (x : Str) (hx : x.length ≤ 1048576) (ho : o.getD [] = g.s) :
    g.commit (fd c o none fl false) x = (0, ⟨g.s ++ (g.wait ++ frame (109 :: x)), [], x, g.marks + 1⟩, fd (c + 1) (some (g.s ++ (g.wait ++ frame (109 :: x)))) none fl false) ∨
    g.commit (fd c o none fl false) x = (7, { g with wait := [] }, fd c o none none true) := by
  have h1 : (fd c o none fl false).append logName (g.wait ++ frame (109 :: x)) = (fd c o none fl false).commit ⟨0, logName, [], g.wait ++ frame (109 :: x), 0⟩ := by
    have h2 : (fd c o none fl false).may false [logName] = 0 := by cases o <;> rfl
    unfold Dk.append
    rw [if_neg (by rw [h2]; exact fun h => h rfl), if_neg (by simp [fd, Dk.fits])]
  unfold Lg.commit
  rw [if_neg (by omega)]
  simp only [h1]
  rcases fd_change c o none fl ⟨0, logName, [], g.wait ++ frame (109 :: x), 0⟩ with h | h
  · right
    rw [h, if_pos (fun e => absurd (show (7 : Int) = 0 from e) (by decide))]
  · left
    rw [h, if_neg (fun h => h rfl)]
    obtain ⟨s, wt, rt, mk⟩ := g
    simp only at ho
    subst ho
    cases o <;> rfl
theorem fd_replace (c : Nat) (o : Option Str) (fl : Option Fall) (g : Lg) (l : List Str) (x : Str) :
    g.replace (fd c o none fl false) l x = (0, ⟨laidText l x, [], x, 1⟩, fd (c + 2) (some (laidText l x)) none fl false) ∨
    ∃ c' x', c ≤ c' ∧ c' ≤ c + 1 ∧ (x' = none ∨ x' = some (laidText l x)) ∧ g.replace (fd c o none fl false) l x = (7, { g with wait := [] }, fd c' o x' none true) := by
  unfold Lg.replace
  have h1 : (fd c o none fl false).write freshName (laidText l x) = (fd c o none fl false).commit ⟨1, freshName, [], laidText l x, 0⟩ := write_any _ _ _ (by cases o <;> rfl) rfl
  simp only [h1]
  rcases fd_change c o none fl ⟨1, freshName, [], laidText l x, 0⟩ with h | h
  · right
    refine ⟨c, none, Nat.le_refl _, by omega, .inl rfl, ?_⟩
    rw [h, if_pos (fun e => absurd (show (7 : Int) = 0 from e) (by decide))]
  · rw [h, if_neg (fun h => h rfl)]
    have h3 : (⟨(fs2 o none).act ⟨1, freshName, [], laidText l x, 0⟩, fs2 o none, [⟨1, freshName, [], laidText l x, 0⟩], -1, fl, c + 1, false⟩ : Dk).sync = (0, fd (c + 1) o (some (laidText l x)) fl false) := by cases o <;> rfl
    simp only [h3]
    rw [if_neg (fun h => h rfl)]
    have h4 : (fd (c + 1) o (some (laidText l x)) fl false).move freshName logName = (fd (c + 1) o (some (laidText l x)) fl false).commit ⟨2, freshName, logName, [], 0⟩ := by
      have h2 : (fd (c + 1) o (some (laidText l x)) fl false).may true [freshName, logName] = 0 := by cases o <;> rfl
      unfold Dk.move
      rw [if_neg (by rw [h2]; exact fun h => h rfl), if_neg (by decide)]
    simp only [h4]
    rcases fd_change (c + 1) o (some (laidText l x)) fl ⟨2, freshName, logName, [], 0⟩ with h5 | h5
    · right
      refine ⟨c + 1, some (laidText l x), by omega, Nat.le_refl _, .inr rfl, ?_⟩
      rw [h5, if_pos (fun e => absurd (show (7 : Int) = 0 from e) (by decide))]
    · left
      rw [h5, if_neg (fun h => h rfl)]
      cases o <;> rfl

theorem laid_short {l : List Str} {x : Str} (hl : ∀ y ∈ l, y.length ≤ 300) (hn : l.length ≤ 6) (hx : x.length ≤ 300) : (laidText l x).length ≤ 3000 := by
  have h1 := datas_le l 300 hl
  have h2 := Nat.mul_le_mul_right (300 + 9) hn
  simp only [laidText, List.length_append, frame_length, List.length_cons]
  omega
set_option maxRecDepth 10000 in
theorem PP.later {k k' c c' : Nat} {g : Lg} {m : Md} {o : Option Str} (h : PP k g m c o) (hk : k ≤ k') (hc : c' ≤ 2 * k') : PP k' g m c' o :=
  ⟨h.file, h.none', h.whole, h.holds, h.waits, h.short, by have := h.size; omega, hc, by have := h.mks; omega, by have := h.cnt; omega⟩
theorem openB_whole {d : Dk} {s rt : Str} {mk : Nat} (hd : d.down = false) (hr : d.read logName = (s, 0)) (h : scan s = (s.length, rt, mk)) : openB d = (some (⟨s, [], rt, mk⟩ : Lg), 0, 0, { d with sure := d.now, loose := [] }) := by
  unfold openB
  rw [if_neg (by rw [hr]; exact fun h => h rfl)]
  simp only [hr, h]
  rw [if_neg (by omega), List.take_length]
  unfold Dk.sync
  rw [if_neg (by rw [hd]; decide)]
  simp only [Int.sub_self]
theorem fd_open1 {k c : Nat} {g : Lg} {m : Md} {o : Option Str} (h : PP k g m c o) (fl : Option Fall) : openW (fd c o none fl false) = (some { g with wait := [] }, 0, 0, fd c o none fl false) := by
  obtain ⟨s, wt, rt, mk⟩ := g
  have h1 := h.file
  have h2 := h.none'
  have h3 := h.whole
  simp only at h1 h2 h3
  cases o with
  | none =>
    obtain ⟨e1, e2⟩ := h2 rfl
    have hs : s = [] := h1.symm
    subst e1 e2 hs
    rfl
  | some s' =>
    have hs : s' = s := h1
    subst hs
    have h4 : openW (fd c (some s') none fl false) = openB (fd c (some s') none fl false) := rfl
    rw [h4, openB_whole (s := s') rfl rfl h3]
    rfl
theorem fd_open {k c : Nat} {g : Lg} {m : Md} {o x : Option Str} {fl : Option Fall} (h : PP k g m c o) (hx : x = none ∨ fl = none) :
    ∃ c' fl', c ≤ c' ∧ c' ≤ c + 1 ∧ openW (fd c o x fl false) = (some { g with wait := [] }, 0, 0, fd c' o none fl' false) := by
  cases x with
  | none => exact ⟨c, fl, Nat.le_refl _, by omega, fd_open1 h fl⟩
  | some t =>
    have hf : fl = none := by rcases hx with e | e; cases e; exact e
    subst hf
    refine ⟨c + 1, none, by omega, Nat.le_refl _, ?_⟩
    obtain ⟨s, wt, rt, mk⟩ := g
    have h1 := h.file
    have h2 := h.none'
    have h3 := h.whole
    simp only at h1 h2 h3
    cases o with
    | none =>
      obtain ⟨e1, e2⟩ := h2 rfl
      have hs : s = [] := h1.symm
      subst e1 e2 hs
      rfl
    | some s' =>
      have hs : s' = s := h1
      subst hs
      have h5 : openW (fd c (some s') (some t) none false) = openB ⟨[(logName, s')], fs2 (some s') (some t), [⟨3, freshName, [], [], 0⟩], -1, none, c + 1, false⟩ := rfl
      rw [h5, openB_whole (s := s') rfl rfl h3]
      rfl

/-- What holds at the head of an inner round: the disk is up, or what waits is gone. -/
def IP (n : Nat) (g : Lg) (m : Md) (c : Nat) (o x : Option Str) (fl : Option Fall) (dn : Bool) : Prop :=
  (dn = false ∧ x = none ∧ PP n g m c o) ∨ (dn = true ∧ fl = none ∧ (x.getD []).length ≤ 3000 ∧ PP n { g with wait := [] } m.rest c o)
theorem IP.rest {n c : Nat} {g : Lg} {m : Md} {o x : Option Str} {fl : Option Fall} {dn : Bool} (h : IP n g m c o x fl dn) : PP (n + 1) { g with wait := [] } m.rest c o ∧ (x = none ∨ fl = none) ∧ (x.getD []).length ≤ 3000 := by
  rcases h with ⟨_, rfl, h⟩ | ⟨_, h1, h2, h3⟩
  · exact ⟨h.dropped, .inl rfl, Nat.zero_le _⟩
  · exact ⟨h3.same, .inr h1, h2⟩

end Go.Proofs.Ytgofngilfdnakaa
