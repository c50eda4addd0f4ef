/-
  This text proves that the law DiskNamed answers true for every input, and that its arguments read afterwards as they read before: no condition.
-/
import Derived.Test.YtgofngilfdnakaaRows
import Derived.Test.YtgofngilfdnakaaDiskL
import Derived.Test.YtgofngilfdnakaaOpens
namespace Go.Proofs.Ytgofngilfdnakaa
open Go Go.ChangeShapes Go.WideShapes Go.ChangeAt Go.RowKit

theorem own : ownKnob Try.prog.godebug = none := by kernel_rfl

theorem arr8 {cs : Array Value} (h : cs.size = 8) : ∃ c0 c1 c2 c3 c4 c5 c6 c7, cs = #[c0, c1, c2, c3, c4, c5, c6, c7] := by
  obtain ⟨l⟩ := cs
  match l, h with
  | [c0, c1, c2, c3, c4, c5, c6, c7], _ => exact ⟨c0, c1, c2, c3, c4, c5, c6, c7, rfl⟩

set_option maxRecDepth 100000 in
/-- What is done, taken apart. -/
theorem open_act3 {H : Type} {enc : TypeId × Value → H} {W : World} {r : Reach} {b0 : Nat} {v : Value} {d : DataW H} {ps : List MemPlace} (hval : Value.okWide Try.prog W r b0 103 v) (hd : DataW.Trod enc Try.prog W 0 (fun _ => true) true 103 v d ps) :
    ∃ (k n f0 f1 f2 : Int) (a b s : Str), v = .agg #[.int .i64 k, .string ⟨a.toArray⟩, .string ⟨b.toArray⟩, .string ⟨s.toArray⟩, .int .i64 n, .int .i64 f0, .int .i64 f1, .int .i64 f2] ∧ s.length ≤ 9223372036854775807 := by
  have hc : Try.prog.cellsOf 103 = 8 := by kernel_rfl
  have hi : Try.prog.cellsOf 3 = 1 := by kernel_rfl
  have hs : Try.prog.cellsOf 9 = 1 := by kernel_rfl
  have hf : Try.prog.cellsOf 56 = 3 := by kernel_rfl
  obtain ⟨cs, rfl, hsz⟩ := okWide_struct Try.underlying103 hval
  obtain ⟨c0, c1, c2, c3, c4, c5, c6, c7, rfl⟩ := arr8 (hsz.trans hc)
  obtain ⟨fuel, hfu⟩ := hd
  obtain ⟨xs, n, _, _, _, hlen, hx⟩ := DataW.trod_struct Try.underlying103 hfu
  have hlen6 : xs.length = 6 := hlen
  have get : ∀ i, i < 6 → ∃ y, xs[i]? = some y := fun i h => ⟨xs[i]'(by omega), List.getElem?_eq_getElem (by omega)⟩
  obtain ⟨y0, g0⟩ := get 0 (by omega)
  obtain ⟨y1, g1⟩ := get 1 (by omega)
  obtain ⟨y2, g2⟩ := get 2 (by omega)
  obtain ⟨y3, g3⟩ := get 3 (by omega)
  obtain ⟨y4, g4⟩ := get 4 (by omega)
  obtain ⟨y5, g5⟩ := get 5 (by omega)
  have h0 := (hx 0 _ rfl).trans g0
  have h1 := (hx 1 _ rfl).trans g1
  have h2 := (hx 2 _ rfl).trans g2
  have h3 := (hx 3 _ rfl).trans g3
  have h4 := (hx 4 _ rfl).trans g4
  have h5 := (hx 5 _ rfl).trans g5
  simp only [List.getElem_toArray, List.getElem_cons_zero, List.getElem_cons_succ, hi, hs, hf, Value.cells, List.drop_zero, List.drop_succ_cons, List.take_succ_cons, List.take_zero] at h0 h1 h2 h3 h4 h5
  obtain ⟨k, e0, _, _⟩ := DataW.trod_int Try.underlying3 h0
  obtain ⟨a, e1, _, _⟩ := DataW.trod_string Try.underlying9 h1
  obtain ⟨b, e2, _, _⟩ := DataW.trod_string Try.underlying9 h2
  obtain ⟨s, e3, _, ws⟩ := DataW.trod_string Try.underlying9 h3
  obtain ⟨q, e4, _, _⟩ := DataW.trod_int Try.underlying3 h4
  obtain ⟨zs, m, _, _, _, hlen3, hz⟩ := DataW.trod_struct Try.underlying56 h5
  have hlen3' : zs.length = 3 := hlen3
  have get3 : ∀ i, i < 3 → ∃ y, zs[i]? = some y := fun i h => ⟨zs[i]'(by omega), List.getElem?_eq_getElem (by omega)⟩
  obtain ⟨t0, u0⟩ := get3 0 (by omega)
  obtain ⟨t1, u1⟩ := get3 1 (by omega)
  obtain ⟨t2, u2⟩ := get3 2 (by omega)
  have k0 := (hz 0 _ rfl).trans u0
  have k1 := (hz 1 _ rfl).trans u1
  have k2 := (hz 2 _ rfl).trans u2
  simp only [List.getElem_toArray, List.getElem_cons_zero, List.getElem_cons_succ, hi, List.drop_zero, List.drop_succ_cons, List.take_succ_cons, List.take_zero] at k0 k1 k2
  obtain ⟨f0, e5, _, _⟩ := DataW.trod_int Try.underlying3 k0
  obtain ⟨f1, e6, _, _⟩ := DataW.trod_int Try.underlying3 k1
  obtain ⟨f2, e7, _, _⟩ := DataW.trod_int Try.underlying3 k2
  simp only [List.cons.injEq, and_true] at e0 e1 e2 e3 e4 e5 e6 e7
  subst e0 e1 e2 e3 e4 e5 e6 e7
  refine ⟨k, q, f0, f1, f2, a.data.toList, b.data.toList, s.data.toList, ?_, ?_⟩
  · rw [← str_size, ← str_size, ← str_size]
  · rw [maxLen_eq] at ws
    exact ws

set_option maxRecDepth 100000 in
theorem diskNamed_lifted (os : Os) (started : os.Started) (H : Type) (enc : TypeId × Value → H) :
    ReturnsInHanded {} Try.checked os 12 .any (Rows.diskNamedSpec.pre6 enc Try.prog Try.f12 Rows.diskNamedRow.domain false) (Rows.diskNamedSpec.post enc Try.prog Try.f12 false true false false) := by
  refine returnsInHanded_of_change (C := Try.checked) own started (by kernel_rfl) Try.func12
    (ChangeSpec.witness6 (enc := enc) (C := Try.checked) false ⟨#[], #[.string ⟨#[]⟩, .agg #[.int .i64 0, .string ⟨#[]⟩, .string ⟨#[]⟩, .string ⟨#[]⟩, .int .i64 0, .int .i64 0, .int .i64 0, .int .i64 0]], []⟩ 8 (by kernel_rfl) (by kernel_rfl) (by kernel_rfl) (by kernel_rfl)) ?_
  intro W base args ds gs before hval0 hW hcnd _
  have hval : ∀ (j : Nat) t v, Try.f12.params[j]? = some t → args[j]? = some v → Value.okWide Try.prog W .any base t v := hval0
  have hW' := hW
  obtain ⟨p, q, hA0, hV, rfl, hfz, hnd⟩ := hW
  have hA : DataW.TrodAll enc Try.prog W 0 (fun _ => true) true Try.f12.params.toList args.toList ds p := hA0
  rw [Try.params12] at hA hval
  obtain ⟨v0, v1, d0, d1, p0, p1, rfl, rfl, rfl, h0, h1⟩ := trodAll_two hA
  obtain ⟨rfl, rfl⟩ := trodVars_none hV
  obtain ⟨z, rfl, _, _, wz⟩ := Go.ChangeMaps.open_string Try.underlying9 (hval 0 9 v0 rfl rfl) h0
  obtain ⟨k, n, f0, f1, f2, a, b, s, rfl, hs⟩ := open_act3 (hval 1 103 v1 rfl rfl) h1
  clear hA0 hval0
  rw [maxLen_eq] at wz
  have hc := DiskNamed_calls z.data.toList k n f0 f1 f2 a b s W wz hs
  rw [← str_size] at hc
  refine hc.mono fun e W' ⟨he, hm⟩ => ?_
  subst he
  exact ⟨_, rfl, post_of_below (by kernel_rfl) (by rw [Try.params12]; decide +kernel) rfl hW' (hm.below (fun _ _ => id)) (fun _ _ _ => trodAll_mk1 (shut_bool Try.underlying4 _)) rfl rfl (ok_one (by kernel_rfl) rfl (okWide_bool_mk Try.underlying4 _))⟩

theorem diskNamed_holds : Rows.DiskNamedSaid :=
  OpenClaim.holds_of_wide 12 Try.f12 rfl rfl rfl rfl rfl rfl rfl ⟨rfl, rfl, rfl, rfl, rfl⟩ rfl rfl rfl rfl rfl (by kernel_rfl) Try.func12 (by kernel_rfl)
    (of_decide_eq_true (by kernel_rfl)) (by unfold Func.isWrapper; first | (rw [if_pos (by decide +kernel)]; kernel_rfl) | (rw [if_neg (by decide +kernel)]; exact ⟨rfl, rfl⟩))
    (fun os started H enc _ => diskNamed_lifted os started H enc)
#print axioms diskNamed_holds

end Go.Proofs.Ytgofngilfdnakaa
