/-
  This text proves what a look-up, an update and a deletion do to the map of a session's table, whatever sessions it has: no condition but that keys are numbers of 64 bits.
-/
import Derived.Test.YtgofngilfdnakaaSess
import Derived.Lib.SlKeysI
namespace Go.Proofs.Ytgofngilfdnakaa
open Go Go.RowKit Go.WideMaps Go.Maps

/-- Sessions, rising, each with what stands in the map. -/
abbrev Vs := List (Int × Value)
def Vs.ins (x : Int × Value) : Vs → Vs
  | [] => [x]
  | y :: r => if x.1 < y.1 then x :: y :: r else y :: Vs.ins x r
def Vs.del (F : Vs) (k : Int) : Vs := F.filter fun p => !(p.1 == k)
def Vs.put (F : Vs) (k : Int) (v : Value) : Vs := Vs.ins (k, v) (F.del k)
def Vs.get (F : Vs) (k : Int) : Option Value := (F.find? fun p => p.1 == k).map (·.2)
def tabD (F : Vs) : DataW Value := .map (F.map fun p => (.int .i64 p.1, .held p.2))

theorem tabD_ins (x : Int × Value) : ∀ F : Vs, ((Vs.ins x F).map fun p => (Lit.int .i64 p.1, (DataW.held p.2 : DataW Value))) = DataW.insert (.int .i64 x.1, .held x.2) (F.map fun p => (.int .i64 p.1, .held p.2))
  | [] => rfl
  | y :: r => by
    by_cases h : x.1 < y.1
    · simp [Vs.ins, DataW.insert, Lit.before, h]
    · simp [Vs.ins, DataW.insert, Lit.before, h, tabD_ins x r]
theorem tabD_filter (k : Int) : ∀ F : Vs, (F.del k).map (fun p => (Lit.int .i64 p.1, (DataW.held p.2 : DataW Value))) = (F.map fun p => (Lit.int .i64 p.1, (DataW.held p.2 : DataW Value))).filter fun p => !p.1.sameKey (.int .i64 k)
  | [] => rfl
  | y :: r => by
    have ih := tabD_filter k r
    unfold Vs.del at *
    rw [List.map_cons, List.filter_cons, List.filter_cons]
    have e : (Lit.int .i64 y.1).sameKey (.int .i64 k) = (y.1 == k) := by rw [Bool.eq_iff_iff]; simp [Lit.sameKey]
    simp only [e]
    split
    · rw [List.map_cons, ih]
    · exact ih
theorem tabD_put (F : Vs) (k : Int) (v : Value) : (tabD F).put (.int .i64 k) (.held v) = tabD (F.put k v) := by
  unfold tabD DataW.put Vs.put
  rw [tabD_ins, tabD_filter]
theorem tabD_del (F : Vs) (k : Int) : (tabD F).del (.int .i64 k) = tabD (F.del k) := by
  unfold tabD DataW.del
  rw [tabD_filter]
theorem tabD_find (k : Int) : ∀ F : Vs, (F.map fun p => (Lit.int .i64 p.1, (DataW.held p.2 : DataW Value))).find? (fun p => p.1.sameKey (.int .i64 k)) = (F.find? fun p => p.1 == k).map fun p => (.int .i64 p.1, .held p.2)
  | [] => rfl
  | y :: r => by
    rw [List.map_cons, List.find?_cons, List.find?_cons]
    have e : (Lit.int .i64 y.1).sameKey (.int .i64 k) = (y.1 == k) := by rw [Bool.eq_iff_iff]; simp [Lit.sameKey]
    simp only [e]
    cases (y.1 == k)
    · exact tabD_find k r
    · rfl
theorem tabD_atKey (F : Vs) (k : Int) (z : Value) : (tabD F).atKey (.int .i64 k) (.held z) = .held ((F.get k).getD z) := by
  unfold tabD DataW.atKey Vs.get
  simp only [tabD_find]
  cases F.find? fun p => p.1 == k <;> rfl
theorem tabD_has (F : Vs) (k : Int) : Maps.has (tabD F) (.int .i64 k) = (F.get k).isSome := by
  unfold tabD Vs.get
  rw [Maps.has_eq]
  induction F with
  | nil => rfl
  | cons y r ih =>
    rw [List.map_cons, List.any_cons, List.find?_cons]
    have e : (Lit.int .i64 y.1).sameKey (.int .i64 k) = (y.1 == k) := by rw [Bool.eq_iff_iff]; simp [Lit.sameKey]
    simp only [e]
    cases (y.1 == k)
    · simpa using ih
    · simp
theorem tabD_size (F : Vs) : Maps.size (tabD F) = F.length := by simp [tabD, Maps.size]
theorem tabD_keys (F : Vs) : intKeys (tabD F) = F.map (·.1) := by
  simp only [tabD, intKeys, List.map_map]
  rfl

theorem keyI {s : Int} (h0 : -9223372036854775808 ≤ s) (h1 : s ≤ 9223372036854775807) : keyOf Try.prog 3 (.int .i64 s) = some (.int .i64 s) :=
  keyOf_int_mk Try.underlying3 (by simp only [Lit.wf, Bool.and_eq_true, decide_eq_true_eq]; exact ⟨h0, h1⟩)
section
variable {w : World} {b k : Nat} {F : Vs} {s : Int}
theorem MapIs.lookG (h : MapIs w b k (tabD F)) (h0 : -9223372036854775808 ≤ s) (h1 : s ≤ 9223372036854775807) : (Instr.lookup 164 (.map (some b)) (.int .i64 s) true).run Try.prog w = .ok (.tuple #[(F.get s).getD (.slice none 0 0), .bool (F.get s).isSome]) w := by
  obtain ⟨u, ps, hrun, hv⟩ := World.ownsMap.look_ok h keyedInt Try.underlying164 (zeroU w) (zd := .held (.slice none 0 0)) (zp := []) rfl (keyI h0 h1)
  rw [tabD_atKey] at hv
  rw [tabD_has] at hrun
  have : u = (F.get s).getD (.slice none 0 0) := by cases hv; rfl
  rw [hrun, this]
theorem MapIs.look1G (h : MapIs w b k (tabD F)) (h0 : -9223372036854775808 ≤ s) (h1 : s ≤ 9223372036854775807) : (Instr.lookup 164 (.map (some b)) (.int .i64 s) false).run Try.prog w = .ok ((F.get s).getD (.slice none 0 0)) w := by
  obtain ⟨u, ps, hrun, hv⟩ := World.ownsMap.lookup h keyedInt Try.underlying164 (zeroU w) (zd := .held (.slice none 0 0)) (zp := []) rfl (keyI h0 h1)
  rw [tabD_atKey] at hv
  have : u = (F.get s).getD (.slice none 0 0) := by cases hv; rfl
  rw [hrun, this]
theorem MapIs.putG (h : MapIs w b k (tabD F)) (h0 : -9223372036854775808 ≤ s) (h1 : s ≤ 9223372036854775807) (hk : k ≤ 1000) (v : Value) :
    ∃ w', (Instr.mapUpdate 164 (.map (some b)) (.int .i64 s) v).run Try.prog w = .ok () w' ∧ MapIs w' b (k + 1) (tabD (F.put s v)) ∧ Mod (fun n => n = b) w w' := by
  obtain ⟨w', hrun, hown, hg⟩ := World.ownsMap.update h keyedInt Try.underlying164 (by rw [maxLen_eq]; omega) (keyI h0 h1) (val := v) (d := .held v) (ps := []) rfl
  rw [tabD_put] at hown
  exact ⟨w', hrun, hown, Mod.of_grown hg⟩
theorem MapIs.delG (h : MapIs w b k (tabD F)) (h0 : -9223372036854775808 ≤ s) (h1 : s ≤ 9223372036854775807) (ty : TypeId) :
    ∃ w' k', (Builtin.delete_ #[164, 3] ty #[.map (some b), .int .i64 s]).run Try.prog w = .ok (.tuple #[]) w' ∧ MapIs w' b k' (tabD (F.del s)) ∧ k' ≤ k ∧ Mod (fun n => n = b) w w' := by
  obtain ⟨w', hrun, hown, ht⟩ := World.ownsMap.drop h keyedInt Try.underlying164 (keyI h0 h1) ty
  rw [tabD_del] at hown
  exact ⟨w', _, hrun, hown, by omega, Mod.of_grown ht.grown⟩
end

end Go.Proofs.Ytgofngilfdnakaa
