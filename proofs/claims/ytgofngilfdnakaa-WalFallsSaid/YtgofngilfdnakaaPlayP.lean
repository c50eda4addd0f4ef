/-
  This text is plain mathematics: what the law WalPlays goes through, step by step; no condition, no Go.
-/
import Derived.Test.YtgofngilfdnakaaRepl
namespace Go.Proofs.Ytgofngilfdnakaa
open Go

/-- A disk with just a log's file, or with none. -/
def pd (c : Nat) : Option Str → Dk
  | none => ⟨[], [], [], -1, none, c, false⟩
  | some s => dk (-1) c s
theorem pd_fresh : pd 0 none = Dk.fresh := rfl
theorem pd_crash (c : Nat) (o : Option Str) (k t : Int) : ({ (pd c o).crash k t with down := false } : Dk) = pd c o := by cases o <;> rfl
theorem pd_fit {c : Nat} {o : Option Str} {N : Nat} (h1 : (o.getD []).length + c + 2 ≤ N) (h2 : N ≤ 400000000) : Fit (pd c o) N := by
  cases o with
  | some s => exact fit_dk h1 h2 (by omega) (by omega)
  | none => exact ⟨⟨by simp [pd], by simp [pd, Files.size], by simp [pd], by simp [pd, Files.size, sumS], fun c hc => (by cases hc), by simp only [pd]; omega⟩, h2, by simp [pd], by simp [pd]⟩

/-- Commit on such a disk. -/
theorem pd_commit (c : Nat) (o : Option Str) (g : Lg) (x : Str) (hx : x.length ≤ 1048576) (ho : o.getD [] = g.s) : g.commit (pd c o) x =
    (0, ⟨g.s ++ (g.wait ++ frame (109 :: x)), [], x, g.marks + 1⟩, pd (c + 1) (some (g.s ++ (g.wait ++ frame (109 :: x))))) := by
  cases o with
  | some s =>
    have hs : s = g.s := ho
    subst hs
    rw [show pd c (some g.s) = dk (-1) c g.s from rfl, dk_commit _ _ _ _ hx, if_pos (by simp [dk, Dk.fits])]
    rfl
  | none =>
    have hs : g.s = [] := ho.symm
    unfold Lg.commit
    rw [if_neg (by omega), hs]
    have h1 : (pd c none).append logName (g.wait ++ frame (109 :: x)) = (0, ⟨[(logName, g.wait ++ frame (109 :: x))], [], [⟨0, logName, [], g.wait ++ frame (109 :: x), 0⟩], -1, none, c + 1, false⟩) := by
      have h2 : (pd c none).may false [logName] = 0 := rfl
      unfold Dk.append
      rw [if_neg (by rw [h2]; exact fun h => h rfl), if_neg (by simp [pd, Dk.fits])]
      rfl
    simp only [h1]
    rfl
/-- All is laid anew on such a disk. -/
theorem pd_replace (c : Nat) (o : Option Str) (g : Lg) (l : List Str) (x : Str) : g.replace (pd c o) l x = (0, ⟨laidText l x, [], x, 1⟩, pd (c + 2) (some (laidText l x))) := by
  unfold Lg.replace
  have h1 : (pd c o).write freshName (laidText l x) = (pd c o).commit ⟨1, freshName, [], laidText l x, 0⟩ := write_any _ _ _ (by cases o <;> rfl) (by cases o <;> rfl)
  simp only [h1]
  cases o <;> rfl
/-- Such a disk is opened. -/
theorem pd_open_none (c : Nat) : openW (pd c none) = (some ⟨[], [], [], 0⟩, 0, 0, pd c none) := rfl
theorem pd_open (c : Nat) (s root : Str) (marks : Nat) (h : scan s = (s.length, root, marks)) : openW (pd c (some s)) = (some ⟨s, [], root, marks⟩, 0, 0, pd c (some s)) := dk_open (-1) c s root marks h

/-- What holds at the head of a round of WalPlays. -/
structure PP (k : Nat) (g : Lg) (m : Md) (c : Nat) (o : Option Str) : Prop where
  file : o.getD [] = g.s
  none' : o = none → g.root = [] ∧ g.marks = 0
  whole : scan g.s = (g.s.length, g.root, g.marks)
  holds : Holds g m
  waits : g.wait = datas (m.wait.map (·.2))
  short : ∀ x ∈ m.wait.map (·.2), x.length ≤ 300
  size : g.s.length + g.wait.length ≤ 3000 + k * 400
  chs : c ≤ 2 * k
  mks : g.marks ≤ 1 + k
  cnt : m.sure.length + m.wait.length ≤ 6 + k
set_option maxRecDepth 10000 in
theorem PP.first : PP 0 ⟨[], [], [], 0⟩ Md.zero 0 none where
  file := rfl
  none' := fun _ => ⟨rfl, rfl⟩
  whole := rfl
  holds := Holds.zero
  waits := rfl
  short := fun x hx => (by cases hx)
  size := Nat.zero_le _
  chs := Nat.zero_le _
  mks := Nat.zero_le _
  cnt := Nat.zero_le _
set_option maxRecDepth 10000 in
theorem PP.same {k c : Nat} {g : Lg} {m : Md} {o : Option Str} (h : PP k g m c o) : PP (k + 1) g m c o :=
  ⟨h.file, h.none', h.whole, h.holds, h.waits, h.short, by have := h.size; omega, by have := h.chs; omega, by have := h.mks; omega, by have := h.cnt; omega⟩
set_option maxRecDepth 10000 in
theorem PP.dropped {k c : Nat} {g : Lg} {m : Md} {o : Option Str} (h : PP k g m c o) : PP (k + 1) { g with wait := [] } m.rest c o :=
  ⟨h.file, h.none', h.whole, h.holds.rest, rfl, fun x hx => (by cases hx), by have := h.size; simp only [List.length_nil]; omega, by have := h.chs; omega, by have := h.mks; simp only; omega, by have := h.cnt; simp only [Md.rest, List.length_nil]; omega⟩
set_option maxRecDepth 10000 in
theorem PP.added {k c : Nat} {g : Lg} {m : Md} {o : Option Str} (h : PP k g m c o) {s : Str} (hs : s.length ≤ 300) : PP (k + 1) { g with wait := g.wait ++ frame (100 :: s) } (m.add s) c o := by
  refine ⟨h.file, h.none', h.whole, h.holds.add s (by omega), ?_, ?_, ?_, by have := h.chs; omega, by have := h.mks; simp only; omega, ?_⟩
  · simp only [h.waits, Md.add, List.map_append, List.map_cons, List.map_nil, datas_append]
    simp [datas]
  · intro x hx
    simp only [Md.add, List.map_append, List.map_cons, List.map_nil] at hx
    rcases List.mem_append.1 hx with hx | hx
    · exact h.short x hx
    · rw [List.mem_singleton.1 hx]; exact hs
  · have := h.size
    simp only [List.length_append, frame_length, List.length_cons]
    omega
  · have := h.cnt
    simp only [Md.add, List.length_append, List.length_cons, List.length_nil]
    omega
set_option maxRecDepth 10000 in
theorem PP.committed {k c : Nat} {g : Lg} {m : Md} {o : Option Str} (h : PP k g m c o) {x : Str} (hx : x.length ≤ 300) :
    PP (k + 1) ⟨g.s ++ (g.wait ++ frame (109 :: x)), [], x, g.marks + 1⟩ (m.commit x) (c + 1) (some (g.s ++ (g.wait ++ frame (109 :: x)))) := by
  refine ⟨rfl, fun e => (by cases e), ?_, h.holds.commit x, rfl, fun y hy => (by cases hy), ?_, by have := h.chs; omega, by have := h.mks; simp only; omega, by have := h.cnt; simp only [Md.commit, List.length_append, List.length_nil]; omega⟩
  · rw [h.waits]
    exact scan_batch g.s g.root g.marks _ x h.whole (fun y hy => by have := h.short y hy; omega) (by omega)
  · have := h.size
    simp only [List.length_append, frame_length, List.length_cons, List.length_nil]
    omega
set_option maxRecDepth 10000 in
theorem PP.relaid {k c : Nat} {g : Lg} {m : Md} {o : Option Str} (h : PP k g m c o) {l : List Str} {x : Str} (hl : ∀ y ∈ l, y.length ≤ 300) (hn : l.length ≤ 6) (hx : x.length ≤ 300) :
    PP (k + 1) ⟨laidText l x, [], x, 1⟩ (Md.laid l x) (c + 2) (some (laidText l x)) := by
  have hlen : (laidText l x).length ≤ 3000 := by
    have h1 := datas_le l 300 hl
    have h2 := Nat.mul_le_mul_right (300 + 9) hn
    simp only [laidText, List.length_append, frame_length, List.length_cons]
    omega
  refine ⟨rfl, fun e => (by cases e), ?_, ⟨?_, fun r hr => (by cases hr), rfl, rfl, fun e => (by cases e), laidText_length l x, rfl⟩, rfl, fun y hy => (by cases hy), by simp only [List.length_nil]; omega, by have := h.chs; omega, by have := h.mks; simp only; omega, by simp only [Md.laid, placed_length, List.length_nil]; omega⟩
  · have := scan_batch [] [] 0 l x rfl (fun y hy => by have := hl y hy; omega) (by omega)
    simpa [laidText] using this
  · intro r hr
    have := placed_rec l [] (frame (109 :: x)) (fun y hy => by have := hl y hy; omega) r hr
    simpa [laidText] using this
set_option maxRecDepth 10000 in
theorem PP.agree {k c : Nat} {g : Lg} {m : Md} {o : Option Str} (h : PP k g m c o) (hk : k ≤ 1000) : Agree g m :=
  h.holds.agree (by have := h.size; have := h.holds.long; have := h.holds.more; omega)
set_option maxRecDepth 10000 in
/-- Such a log is opened anew. -/
theorem PP.opens {k c : Nat} {g : Lg} {m : Md} {o : Option Str} (h : PP k g m c o) : openW (pd c o) = (some { g with wait := [] }, 0, 0, pd c o) := by
  cases o with
  | none =>
    obtain ⟨h1, h2⟩ := h.none' rfl
    have hs : g.s = [] := h.file.symm
    rw [pd_open_none, hs, h1, h2]
  | some s =>
    have hs : s = g.s := h.file
    subst hs
    exact pd_open c g.s g.root g.marks h.whole

end Go.Proofs.Ytgofngilfdnakaa
