/-
  This text proves what is true of a map of files in memory, and what disk.files.do and disk.files.size do to one, under bounds on lengths that the callers meet.
-/
import Derived.Test.YtgofngilfdnakaaGreatStage
import Derived.Test.YtgofngilfdnakaaGreatDiskP
import Derived.Test.YtgofngilfdnakaaGreatProg
import Derived.Lib.Hide
import Derived.Maps.StringElems
import Derived.StringKeys
import Derived.Sort.MapsRangeIn
namespace Go.Proofs.YtgofngilfdnakaaGreat
open Go Go.RowKit
attribute [local go_sem] over_cell over_frozen lt_over le_over noB loudUpon ByteArray.mk_append_mk ByteArray.extract_mk

theorem keyed : Maps.Keyed Tryz.prog 9 := Maps.string_keyed Tryz.underlying9
theorem zeroStr (w : World) : (zeroValue 9).run Tryz.prog w = .ok (.string ⟨#[]⟩) w := by kernel_rfl

/-- A map of files in memory. -/
def FilesAt (w : World) (b : Nat) (F : Files) : Prop := w.ownsMap (H := Unit) Tryz.prog 9 (plainElem Tryz.prog 9) b F.length (filesD F)

theorem FilesAt.tight {w : World} {b n : Nat} {F : Files} (h : w.ownsMap (H := Unit) Tryz.prog 9 (plainElem Tryz.prog 9) b n (filesD F)) : FilesAt w b F := by
  obtain ⟨es, clock, hb, fit, hs, hD⟩ := h
  refine ⟨es, clock, hb, fit, ?_, hD⟩
  have h1 := congrArg (fun D => Maps.size D) hD
  simp only [filesD, Maps.size_eq, List.length_map, length_sorted] at h1
  rw [h1]
  simp
theorem FilesAt.mod {w w' : World} {G : Nat → Prop} {b : Nat} {F : Files} (h : FilesAt w b F) (hm : Mod G w w') (hG : ¬ G b) : FilesAt w' b F := by
  have hlt := h.lt
  obtain ⟨es, clock, hb, r⟩ := h
  exact ⟨es, clock, (hm.block b hlt hG).trans hb, r⟩
theorem FilesAt.heap {w : World} {b : Nat} {F : Files} (h : FilesAt w b F) : ∃ es clock, w.heap[b]? = some (.map es clock) := by
  obtain ⟨es, clock, hb, _⟩ := h
  exact ⟨es, clock, hb⟩
theorem Mod.of_grown {w w' : World} {b : Nat} (h : w.grownBy w' (some b)) : Mod (fun k => k = b) w w' :=
  ⟨h.os, h.tape, h.output, h.size, fun k hk hb => h.block k hk (fun e => hb (Option.some.inj e))⟩

theorem keyStr {k : Str} (hk : k.length ≤ maxLen) : keyOf Tryz.prog 9 (.string ⟨k.toArray⟩) = some (.string k) := by
  have := Go.WideMaps.keyOf_string_mk (P := Tryz.prog) Tryz.underlying9 (s := ⟨k.toArray⟩) (by simpa [ByteArray.size] using hk)
  simpa using this

theorem FilesAt.look {w : World} {b : Nat} {F : Files} (h : FilesAt w b F) (k : Str) (hk : k.length ≤ maxLen) :
    (Instr.lookup 139 (.map (some b)) (.string ⟨k.toArray⟩) true).run Tryz.prog w = .ok (.tuple #[.string ⟨(F.val k).toArray⟩, .bool (F.has k)]) w := by
  obtain ⟨v, ps, hrun, hv⟩ := World.ownsMap.look_ok h keyed Tryz.underlying139 (zeroStr w) (plainElem_string Tryz.underlying9 (s := ⟨#[]⟩) (by simp [ByteArray.size])) (keyStr hk)
  obtain ⟨s, rfl, hs, _⟩ := plainElem_string_inv Tryz.underlying9 hv
  have e := (Prod.mk.inj hs).1
  have e2 := filesD_atKey F k
  rw [e2] at e
  simp only [DataW.lit.injEq, Lit.string.injEq] at e
  rw [hrun, filesD_has, e]
theorem FilesAt.look1 {w : World} {b : Nat} {F : Files} (h : FilesAt w b F) (k : Str) (hk : k.length ≤ maxLen) :
    (Instr.lookup 139 (.map (some b)) (.string ⟨k.toArray⟩) false).run Tryz.prog w = .ok (.string ⟨(F.val k).toArray⟩) w := by
  obtain ⟨v, ps, hrun, hv⟩ := World.ownsMap.lookup h keyed Tryz.underlying139 (zeroStr w) (plainElem_string Tryz.underlying9 (s := ⟨#[]⟩) (by simp [ByteArray.size])) (keyStr hk)
  obtain ⟨s, rfl, hs, _⟩ := plainElem_string_inv Tryz.underlying9 hv
  have e := (Prod.mk.inj hs).1
  have e2 := filesD_atKey F k
  rw [e2] at e
  simp only [DataW.lit.injEq, Lit.string.injEq] at e
  rw [hrun, e]
theorem FilesAt.put {w : World} {b : Nat} {F : Files} (h : FilesAt w b F) (k v : Str) (hk : k.length ≤ maxLen) (hv : v.length ≤ maxLen) (hF : F.length < maxLen) :
    ∃ w', (Instr.mapUpdate 139 (.map (some b)) (.string ⟨k.toArray⟩) (.string ⟨v.toArray⟩)).run Tryz.prog w = .ok () w' ∧ FilesAt w' b (F.put k v) ∧ Mod (fun n => n = b) w w' := by
  obtain ⟨w', hrun, hown, hg⟩ := World.ownsMap.update h keyed Tryz.underlying139 hF (keyStr hk) (plainElem_string Tryz.underlying9 (s := ⟨v.toArray⟩) (by simpa [ByteArray.size] using hv))
  refine ⟨w', hrun, ?_, Mod.of_grown hg⟩
  rw [show (⟨v.toArray⟩ : ByteArray).data.toList = v by simp, filesD_put] at hown
  exact FilesAt.tight hown
theorem FilesAt.del {w : World} {b : Nat} {F : Files} (h : FilesAt w b F) (k : Str) (hk : k.length ≤ maxLen) (ty : TypeId) :
    ∃ w', (Builtin.delete_ #[139, 9] ty #[.map (some b), .string ⟨k.toArray⟩]).run Tryz.prog w = .ok (.tuple #[]) w' ∧ FilesAt w' b (F.del k) ∧ Mod (fun n => n = b) w w' := by
  obtain ⟨w', hrun, hown, ht⟩ := World.ownsMap.drop h keyed Tryz.underlying139 (keyStr hk) ty
  refine ⟨w', hrun, ?_, Mod.of_grown ht.grown⟩
  rw [filesD_del] at hown
  exact FilesAt.tight hown

theorem maxLen_eq : maxLen = 9223372036854775807 := rfl

set_option maxRecDepth 100000 in
set_option maxHeartbeats 800000 in
theorem do_calls0 (b : Nat) (F : Files) (name to s : Str) (n : Int) (w : World) (h : FilesAt w b F) (hn : name.length ≤ 1000000000000000) (hF : F.length ≤ 1000000000) (hz : F.size ≤ 1000000000000000) (hs : s.length ≤ 1000000000000000) :
    Calls Tryz.prog 87 #[.map (some b), .agg #[.int .i64 0, .string ⟨name.toArray⟩, .string ⟨to.toArray⟩, .string ⟨s.toArray⟩, .int .i64 n]] w fun e w' => e = .returned (.tuple #[]) ∧ Mod (fun k => k = b) w w' ∧ FilesAt w' b (F.act ⟨0, name, to, s, n⟩) := by
  have hb := h.lt
  have hv := F.val_le name
  have hm0 : Mod NoB w (w.alloc (.cells #[.int .i64 0, .string ⟨name.toArray⟩, .string ⟨to.toArray⟩, .string ⟨s.toArray⟩, .int .i64 n] 155)) := (Mod.refl _ _).alloc _
  have h0 := h.mod hm0 id
  have hl := h0.look name (by rw [maxLen_eq]; omega)
  obtain ⟨w1, hrun, h1, hm1⟩ := h0.put name (F.val name ++ s) (by rw [maxLen_eq]; omega) (by rw [maxLen_eq]; simp; omega) (by rw [maxLen_eq]; omega)
  have hfin : F.act ⟨0, name, to, s, n⟩ = F.put name (F.val name ++ s) := by simp [Files.act]
  rw [hfin]
  have HM := Lib.hid ((hm0.mono (noB_sub (fun k => k = b) _)).trans hm1 (fun _ _ h => h)); clear hm0 hm1 hfin
  have H1 := Lib.hid h1; clear h1 h0 h
  generalize F.val name = v at *
  generalize F.has name = hv2 at *
  go_enter Tryz.func87, Tryz.ntmps87
  go_wp2
  skip
  go_end0
  exact ⟨rfl, HM.out, H1.out⟩
set_option maxRecDepth 100000 in
set_option maxHeartbeats 800000 in
theorem do_calls1 (b : Nat) (F : Files) (name to s : Str) (n : Int) (w : World) (h : FilesAt w b F) (hn : name.length ≤ 1000000000000000) (hF : F.length ≤ 1000000000) (hs : s.length ≤ 1000000000000000) :
    Calls Tryz.prog 87 #[.map (some b), .agg #[.int .i64 1, .string ⟨name.toArray⟩, .string ⟨to.toArray⟩, .string ⟨s.toArray⟩, .int .i64 n]] w fun e w' => e = .returned (.tuple #[]) ∧ Mod (fun k => k = b) w w' ∧ FilesAt w' b (F.act ⟨1, name, to, s, n⟩) := by
  have hb := h.lt
  have hv := F.val_le name
  have hm0 : Mod NoB w (w.alloc (.cells #[.int .i64 1, .string ⟨name.toArray⟩, .string ⟨to.toArray⟩, .string ⟨s.toArray⟩, .int .i64 n] 155)) := (Mod.refl _ _).alloc _
  have h0 := h.mod hm0 id
  have hl := h0.look name (by rw [maxLen_eq]; omega)
  obtain ⟨w1, hrun, h1, hm1⟩ := h0.put name s (by rw [maxLen_eq]; omega) (by rw [maxLen_eq]; omega) (by rw [maxLen_eq]; omega)
  have hfin : F.act ⟨1, name, to, s, n⟩ = F.put name s := by simp [Files.act]
  rw [hfin]
  have HM := Lib.hid ((hm0.mono (noB_sub (fun k => k = b) _)).trans hm1 (fun _ _ h => h)); clear hm0 hm1 hfin
  have H1 := Lib.hid h1; clear h1 h0 h
  generalize F.val name = v at *
  generalize F.has name = hv2 at *
  go_enter Tryz.func87, Tryz.ntmps87
  go_wp2
  skip
  go_end0
  exact ⟨rfl, HM.out, H1.out⟩
set_option maxRecDepth 100000 in
set_option maxHeartbeats 800000 in
theorem do_calls3 (b : Nat) (F : Files) (name to s : Str) (n : Int) (w : World) (h : FilesAt w b F) (hn : name.length ≤ 1000000000000000)  :
    Calls Tryz.prog 87 #[.map (some b), .agg #[.int .i64 3, .string ⟨name.toArray⟩, .string ⟨to.toArray⟩, .string ⟨s.toArray⟩, .int .i64 n]] w fun e w' => e = .returned (.tuple #[]) ∧ Mod (fun k => k = b) w w' ∧ FilesAt w' b (F.act ⟨3, name, to, s, n⟩) := by
  have hb := h.lt
  have hv := F.val_le name
  have hm0 : Mod NoB w (w.alloc (.cells #[.int .i64 3, .string ⟨name.toArray⟩, .string ⟨to.toArray⟩, .string ⟨s.toArray⟩, .int .i64 n] 155)) := (Mod.refl _ _).alloc _
  have h0 := h.mod hm0 id
  have hl := h0.look name (by rw [maxLen_eq]; omega)
  obtain ⟨w1, hrun, h1, hm1⟩ := h0.del name (by rw [maxLen_eq]; omega) 0
  have hfin : F.act ⟨3, name, to, s, n⟩ = F.del name := by simp [Files.act]
  rw [hfin]
  have HM := Lib.hid ((hm0.mono (noB_sub (fun k => k = b) _)).trans hm1 (fun _ _ h => h)); clear hm0 hm1 hfin
  have H1 := Lib.hid h1; clear h1 h0 h
  generalize F.val name = v at *
  generalize F.has name = hv2 at *
  go_enter Tryz.func87, Tryz.ntmps87
  go_wp2
  skip
  go_end0
  exact ⟨rfl, HM.out, H1.out⟩

set_option maxRecDepth 100000 in
set_option maxHeartbeats 800000 in
theorem do_calls2 (b : Nat) (F : Files) (name to s : Str) (n : Int) (w : World) (h : FilesAt w b F) (hF : F.length ≤ 1000000000) (hz : F.size ≤ 1000000000000000) (ht : to.length ≤ 1000000000000000) (hn : name.length ≤ 1000000000000000) :
    Calls Tryz.prog 87 #[.map (some b), .agg #[.int .i64 2, .string ⟨name.toArray⟩, .string ⟨to.toArray⟩, .string ⟨s.toArray⟩, .int .i64 n]] w fun e w' => e = .returned (.tuple #[]) ∧ Mod (fun k => k = b) w w' ∧ FilesAt w' b (F.act ⟨2, name, to, s, n⟩) := by
  have hb := h.lt
  have hv := F.val_le name
  have hbne : ¬ w.heap.size = b := by omega
  have hm0 : Mod NoB w (w.alloc (.cells #[.int .i64 2, .string ⟨name.toArray⟩, .string ⟨to.toArray⟩, .string ⟨s.toArray⟩, .int .i64 n] 155)) := (Mod.refl _ _).alloc _
  have h0 := h.mod hm0 id
  have hl := h0.look name (by rw [maxLen_eq]; omega)
  by_cases hh : F.has name = true
  · rw [hh] at hl
    obtain ⟨w1, hrun, h1, hm1⟩ := h0.put to (F.val name) (by rw [maxLen_eq]; omega) (by rw [maxLen_eq]; omega) (by rw [maxLen_eq]; omega)
    obtain ⟨w2, hrun2, h2, hm2⟩ := h1.del name (by rw [maxLen_eq]; omega) 0
    have hfin : F.act ⟨2, name, to, s, n⟩ = (F.put to (F.val name)).del name := by simp [Files.act, hh]
    rw [hfin]
    have HM := Lib.hid (((hm0.mono (noB_sub (fun k => k = b) _)).trans hm1 (fun _ _ h => h)).trans hm2 (fun _ _ h => h)); clear hm0 hm2 hfin
    have H2 := Lib.hid h2; clear h1 h0 h h2
    obtain ⟨x, rfl⟩ := hm1.over
    clear hm1
    have HH := Lib.hid hh; clear hh
    generalize F.val name = v at *
    go_enter Tryz.func87, Tryz.ntmps87
    go_wp2
    go_end0
    exact ⟨rfl, HM.out, H2.out⟩
  · have hh' : F.has name = false := by simpa using hh
    rw [hh'] at hl
    have hfin : F.act ⟨2, name, to, s, n⟩ = F := by simp [Files.act, hh']
    rw [hfin]
    have HM := Lib.hid (hm0.mono (noB_sub (fun k => k = b) _)); clear hm0 hfin
    have H0 := Lib.hid h0; clear h0 h
    clear hh hh'
    generalize F.val name = v at *
    go_enter Tryz.func87, Tryz.ntmps87
    go_wp2
    go_end0
    exact ⟨rfl, HM.out, H0.out⟩

set_option maxRecDepth 100000 in
set_option maxHeartbeats 800000 in
theorem do_calls4 (b : Nat) (F : Files) (name to s : Str) (n : Int) (w : World) (h : FilesAt w b F) (hF : F.length ≤ 1000000000) (hz : F.size ≤ 1000000000000000) (h0n : 0 ≤ n) (h1n : n ≤ 1000000000000000) (hn : name.length ≤ 1000000000000000) :
    Calls Tryz.prog 87 #[.map (some b), .agg #[.int .i64 4, .string ⟨name.toArray⟩, .string ⟨to.toArray⟩, .string ⟨s.toArray⟩, .int .i64 n]] w fun e w' => e = .returned (.tuple #[]) ∧ Mod (fun k => k = b) w w' ∧ FilesAt w' b (F.act ⟨4, name, to, s, n⟩) := by
  have hb := h.lt
  have hv := F.val_le name
  have hbne : ¬ w.heap.size = b := by omega
  have hm0 : Mod NoB w (w.alloc (.cells #[.int .i64 4, .string ⟨name.toArray⟩, .string ⟨to.toArray⟩, .string ⟨s.toArray⟩, .int .i64 n] 155)) := (Mod.refl _ _).alloc _
  have h0 := h.mod hm0 id
  have hl := h0.look name (by rw [maxLen_eq]; omega)
  by_cases hh : F.has name = true
  · rw [hh] at hl
    have hfin : F.act ⟨4, name, to, s, n⟩ = F.put name ((F.val name).take (min n (F.val name).length).toNat) := by simp [Files.act, hh]
    rw [hfin]
    have H0 := Lib.hid h0; clear h0 h
    have HM0 := Lib.hid hm0; clear hm0
    have HH := Lib.hid hh; clear hh hfin
    generalize F.val name = v at *
    obtain ⟨m, rfl⟩ := Int.eq_ofNat_of_zero_le h0n
    go_enter Tryz.func87, Tryz.ntmps87
    by_cases hle : m ≤ v.length
    · have e : (min (m : Int) (v.length : Int)).toNat = m := by omega
      have HE := Lib.hid e; clear e
      go_wp2
      refine wp_region_quiet_tail 10 (fun w' => ∃ x, w' = over _ (NoB) x) (by kernel_rfl) (by kernel_rfl) (Cls.drew _ _) ?_
      simp only [List.take_succ_cons, List.take_zero, List.drop_succ_cons, List.drop_zero]
      repeat (go_big_quiet_step (fail))
      refine wpQuiet_nil ?_
      rintro _ ⟨y, rfl⟩
      have hmz := over_mod (w.alloc (.cells #[.int .i64 4, .string ⟨name.toArray⟩, .string ⟨to.toArray⟩, .string ⟨s.toArray⟩, .int .i64 (m : Int)] 155)) NoB y
      obtain ⟨w1, hrun, h1, hm1⟩ := (H0.out.mod hmz id).put name (v.take m) (by rw [maxLen_eq]; omega) (by rw [maxLen_eq]; simp; omega) (by rw [maxLen_eq]; omega)
      have HM := Lib.hid ((((HM0.out.mono (noB_sub (fun k => k = b) _)).trans hmz (noB_sub _ _)).trans hm1 (fun _ _ h => h)))
      clear hm1 hmz
      have H1 := Lib.hid h1; clear h1
      go_wp2
      go_end0
      rw [HE.out]
      exact ⟨rfl, HM.out, H1.out⟩
    · have e : (min (m : Int) (v.length : Int)).toNat = v.length := by omega
      have HE := Lib.hid e; clear e
      go_wp2
      refine wp_region_quiet_tail 10 (fun w' => ∃ x, w' = over _ (NoB) x) (by kernel_rfl) (by kernel_rfl) (Cls.drew _ _) ?_
      simp only [List.take_succ_cons, List.take_zero, List.drop_succ_cons, List.drop_zero]
      repeat (go_big_quiet_step (fail))
      refine wpQuiet_nil ?_
      rintro _ ⟨y, rfl⟩
      have hmz := over_mod (w.alloc (.cells #[.int .i64 4, .string ⟨name.toArray⟩, .string ⟨to.toArray⟩, .string ⟨s.toArray⟩, .int .i64 (m : Int)] 155)) NoB y
      obtain ⟨w1, hrun, h1, hm1⟩ := (H0.out.mod hmz id).put name v (by rw [maxLen_eq]; omega) (by rw [maxLen_eq]; omega) (by rw [maxLen_eq]; omega)
      have HM := Lib.hid ((((HM0.out.mono (noB_sub (fun k => k = b) _)).trans hmz (noB_sub _ _)).trans hm1 (fun _ _ h => h)))
      clear hm1 hmz
      have H1 := Lib.hid h1; clear h1
      go_wp2
      go_end0
      rw [HE.out, List.take_length]
      exact ⟨rfl, HM.out, H1.out⟩
  · have hh' : F.has name = false := by simpa using hh
    rw [hh'] at hl
    have hfin : F.act ⟨4, name, to, s, n⟩ = F := by simp [Files.act, hh']
    rw [hfin]
    have HM := Lib.hid (hm0.mono (noB_sub (fun k => k = b) _)); clear hm0 hfin
    have H0 := Lib.hid h0; clear h0 h
    clear hh hh'
    generalize F.val name = v at *
    go_enter Tryz.func87, Tryz.ntmps87
    go_wp2
    go_end0
    exact ⟨rfl, HM.out, H0.out⟩

/-- What a change may hold. -/
def Chg.ok (c : Chg) : Prop := c.kind ≤ 4 ∧ c.name.length ≤ 1000000000000000 ∧ c.to.length ≤ 1000000000000000 ∧ c.s.length ≤ 1000000000000000 ∧ 0 ≤ c.n ∧ c.n ≤ 1000000000000000
theorem do_calls (b : Nat) (F : Files) (c : Chg) (w : World) (h : FilesAt w b F) (hF : F.length ≤ 1000000000) (hz : F.size ≤ 1000000000000000) (hc : c.ok) :
    Calls Tryz.prog 87 #[.map (some b), .agg #[.int .i64 c.kind, .string ⟨c.name.toArray⟩, .string ⟨c.to.toArray⟩, .string ⟨c.s.toArray⟩, .int .i64 c.n]] w fun e w' => e = .returned (.tuple #[]) ∧ Mod (fun k => k = b) w w' ∧ FilesAt w' b (F.act c) := by
  obtain ⟨kind, name, to, s, n⟩ := c
  obtain ⟨h1, h2, h3, h4, h5, h6⟩ := hc
  simp only at h1 h2 h3 h4 h5 h6 ⊢
  have : kind = 0 ∨ kind = 1 ∨ kind = 2 ∨ kind = 3 ∨ kind = 4 := by omega
  rcases this with rfl | rfl | rfl | rfl | rfl
  · exact do_calls0 b F name to s n w h h2 hF hz h4
  · exact do_calls1 b F name to s n w h h2 hF h4
  · exact do_calls2 b F name to s n w h hF hz h3 h2
  · exact do_calls3 b F name to s n w h h2
  · exact do_calls4 b F name to s n w h hF hz h5 h6 h2

/-- The bytes of the files that are still to come. -/
def leftSize (left : Lit → Bool) : Files → Nat
  | [] => 0
  | p :: r => (if left (.string p.1) then p.2.length else 0) + leftSize left r
theorem leftSize_none {left : Lit → Bool} (h : ∀ k, left k = false) : ∀ F : Files, leftSize left F = 0
  | [] => rfl
  | p :: r => by simp [leftSize, h, leftSize_none h r]
theorem leftSize_all {left : Lit → Bool} : ∀ F : Files, (∀ p ∈ F, left (.string p.1) = true) → leftSize left F = F.size
  | [], _ => rfl
  | p :: r, h => by
    simp only [leftSize, Files.size]
    rw [h p List.mem_cons_self, leftSize_all r (fun q hq => h q (List.mem_cons_of_mem _ hq))]
    rfl
theorem leftSize_same {left left' : Lit → Bool} : ∀ F : Files, (∀ p ∈ F, left (.string p.1) = left' (.string p.1)) → leftSize left F = leftSize left' F
  | [], _ => rfl
  | p :: r, h => by
    simp only [leftSize]
    rw [h p List.mem_cons_self, leftSize_same r (fun q hq => h q (List.mem_cons_of_mem _ hq))]
theorem leftSize_strike {left : Lit → Bool} {k v : Str} (hl : left (.string k) = true) : ∀ F : Files, F.Pairwise (fun p q => p.1 ≠ q.1) → F.get k = some v →
    leftSize left F = v.length + leftSize (fun z => left z && !z.sameKey (.string k)) F
  | [], _, h => by simp [Files.get] at h
  | p :: r, hp, h => by
    have e : ∀ q : Str × Str, (Lit.string q.1).sameKey (.string k) = (q.1 == k) := fun _ => rfl
    simp only [leftSize, e]
    cases hp with
    | cons h1 h2 =>
      by_cases hk : p.1 = k
      · have hv : p.2 = v := by simpa [Files.get, List.find?_cons, hk] using h
        rw [hk, hl, hv]
        have := leftSize_same (left := left) (left' := fun z => left z && !z.sameKey (.string k)) r (fun q hq => by
          have hne := h1 q hq
          have : ¬ q.1 = k := fun e1 => hne (hk.trans e1.symm)
          simp [e, this])
        simp [this]
      · have hg : Files.get r k = some v := by
          have : (p.1 == k) = false := by simpa using hk
          simpa [Files.get, List.find?_cons, this] using h
        have ih := leftSize_strike hl r h2 hg
        have : (p.1 == k) = false := by simpa using hk
        simp only [this, Bool.not_false, Bool.and_true]
        omega
theorem FilesAt.apart {w : World} {b : Nat} {F : Files} (h : FilesAt w b F) : F.Pairwise (fun p q => p.1 ≠ q.1) := by
  obtain ⟨es, he, hp⟩ := World.ownsMap.tidy h keyed
  simp only [filesD, DataW.map.injEq] at he
  subst he
  rw [List.pairwise_map] at hp
  exact hp.imp (fun hne e => hne (by rw [e]))
theorem get_of_atKey {F : Files} {k v : Str} (h : ∀ zd : DataW Unit, (filesD F).atKey (.string k) zd = .lit (.string v)) : F.get k = some v := by
  cases hg : F.get k with
  | none =>
    exfalso
    have hh : Maps.has (filesD F) (.string k) = false := by rw [filesD_has, Files.has, hg]; rfl
    have := h (.lit (.bool true))
    rw [Maps.atKey_of_not_has hh] at this
    simp at this
  | some u =>
    have h1 := h (.lit (.string []))
    rw [filesD_atKey, Files.val, hg] at h1
    simpa using h1

set_option maxRecDepth 100000 in
set_option maxHeartbeats 800000 in
theorem size_calls (b : Nat) (F : Files) (w : World) (h : FilesAt w b F) (hz : F.size ≤ 1000000000000000) :
    Calls Tryz.prog 89 #[.map (some b)] w fun e w' => e = .returned (.int .i64 F.size) ∧ Mod NoB w w' := by
  have hap := h.apart
  have HAP := Lib.hid hap; clear hap
  have hb := h.lt
  have hall : leftSize (Maps.has (filesD F)) F = F.size := leftSize_all F (fun p hp => by
    rw [filesD_has, Files.has, Files.get]
    simp only [Option.isSome_map, List.find?_isSome]
    exact ⟨p, hp, by simp⟩)
  have HALL := Lib.hid hall; clear hall
  go_enter Tryz.func89, Tryz.ntmps89
  go_wp2_with (at_range; refine wpList_range_own _ rfl _ 139 rfl 9 9 keyed Tryz.underlying139 _ b F.length (filesD F) rfl h ?_; intro w1 hr hg hs)
  have hm : Mod NoB w w1 := (Mod.refl NoB w).grown hg (fun k hk => by cases hk)
  have HM := Lib.hid hm; clear hm hg
  have HR := Lib.hid hr; clear hr h
  have hbs : w.heap.size < w1.heap.size := by omega
  clear hs
  go_frame
  go_loopw [3] (fun x wr => ∃ (q : Nat) (left : Lit → Bool) (cnt : Nat), x = .int .i64 q ∧ q + leftSize left F = F.size ∧ Hid (wr.ranges Tryz.prog 9 (plainElem Tryz.prog 9) b w.heap.size F.length (filesD F) left cnt) ∧ Hid (Mod NoB w wr)) (fun _ wr => wr.rangeLeft b w.heap.size)
  case atStart => exact ⟨0, _, _, rfl, by rw [Nat.zero_add]; exact HALL.out, HR, HM⟩
  case round =>
    clear HM HR HALL hbs
    obtain ⟨q, left, cnt, rfl, hsum, HR, HM⟩ := hrel
    have hle := HR.out.left_eq
    rcases HR.out.next keyed 0 with ⟨h0, hall, hrun⟩ | ⟨key, v, kl, y, w', cnt', hkey, hlk, hv, hat, hrun, hrg, hlt, hgr, hsz, hen⟩
    · rw [leftSize_none hall] at hsum
      have hq : q = F.size := by omega
      subst hq
      clear hall h0 hle hsum
      go_wp2
      go_ret
      exact ⟨rfl, HM.out⟩
    · obtain ⟨k, rfl⟩ := Maps.keyOf_string_inv Tryz.underlying9 hkey
      obtain ⟨c, rfl, hy, hcl⟩ := plainElem_string_inv Tryz.underlying9 hv
      have hkl : kl = .string k.data.toList := by
        have : keyOf Tryz.prog 9 (.string k) = mapKey Tryz.prog 9 (.string k) := keyOf_string Tryz.underlying9 _
        rw [this] at hkey
        simp [mapKey] at hkey
        exact hkey.2.symm
      subst hkl
      have hget : F.get k.data.toList = some c.data.toList := get_of_atKey fun zd => by rw [hat zd, hy]
      have hst := leftSize_strike hlk F HAP.out hget
      have HN : Hid (Mod NoB w w') := HM.out.trans (Mod.of_grown hgr) (fun n hn e => by omega)
      have hcs : c.size = c.data.toList.length := (Array.length_toList).symm
      have HG := Lib.hid hrg; clear hrg hat hy hv hkey hget hgr hcl
      have hsum2 : q + c.size + leftSize (fun z => left z && !z.sameKey (.string k.data.toList)) F = F.size := by omega
      have HS2 := Lib.hid hsum2
      have hb2 : q + c.size ≤ 1000000000000000 := by omega
      clear hst hsum hsum2 hcs
      go_wp2
      go_roundw
      case rel => exact ⟨q + c.size, _, _, by go_num, HS2.out, HG, HN⟩
      case measure => rw [hle, HG.out.left_eq]; exact hlt

end Go.Proofs.YtgofngilfdnakaaGreat
