/-
  This text proves what the helpers few, frame and cut of the package cupellaw04 compute: under bounds on lengths.
-/
import Derived.Test.YtgofngilfdnakaaRef
import Derived.Test.YtgofngilfdnakaaDiskC
namespace Go.Proofs.Ytgofngilfdnakaa
open Go Go.RowKit
attribute [local go_sem] over_cell over_frozen lt_over le_over noB loudUpon ByteArray.mk_append_mk ByteArray.extract_mk drop_full

def few (s : Str) : Str := s.take 300
theorem few_length (s : Str) : (few s).length ≤ 300 := by simp [few, List.length_take]; omega

set_option maxRecDepth 100000 in
set_option maxHeartbeats 400000 in
theorem few4_calls (s : Str) (w : World) (hs : s.length ≤ 9223372036854775807) : Calls Try.prog 19 #[.string ⟨s.toArray⟩] w fun e w' => e = .returned (.string ⟨(few s).toArray⟩) ∧ w = w' := by
  unfold few
  by_cases h : s.length > 300
  · go_enter Try.func19, Try.ntmps19
    go_wp2
    go_ret
    exact ⟨rfl, rfl⟩
  · rw [List.take_of_length_le (by omega)]
    go_enter Try.func19, Try.ntmps19
    go_wp2
    go_ret
    exact ⟨rfl, rfl⟩

set_option maxRecDepth 100000 in
set_option maxHeartbeats 400000 in
theorem frame4_calls (s : Str) (w : World) (hs : s.length ≤ 1000000000) : Calls Try.prog 33 #[.string ⟨s.toArray⟩] w fun e w' => e = .returned (.int .i64 ((s.length + 9 : Nat) : Int)) ∧ Mod NoB w w' := by
  have hfl := frame_length (100 :: s)
  rw [List.length_cons] at hfl
  have hfr : ∀ X, Calls Try.prog 20 #[.string ⟨(100 :: s).toArray⟩] X fun e w' => e = .returned (.string ⟨(frame (100 :: s)).toArray⟩) ∧ Mod NoB X w' := fun X => RefFrame_calls (100 :: s) X (by simp only [List.length_cons]; omega)
  have HFR := Lib.hid hfr; clear hfr
  generalize frame (100 :: s) = fr at *
  go_enter Try.func33, Try.ntmps33
  go_wp2_with fail
  refine (HFR.out _).mono ?_
  rintro e w' ⟨rfl, hm⟩
  go_wp2_with fail
  go_ret
  refine ⟨?_, hm⟩
  show Ending.returned (Value.int IntKind.i64 ((s.length : Int) + 1 + 8)) = _
  rw [show ((s.length + 9 : Nat) : Int) = (s.length : Int) + 1 + 8 by omega]

/-- Texts that lie in a slice. -/
def StrsIn (w : World) (v : Value) (l : List Str) : Prop := ∃ a cap, v = .slice a l.length cap ∧ l.length ≤ cap ∧ cap ≤ maxLen ∧ ∀ i, i < l.length → ∃ b o, a = some ⟨b, o, none⟩ ∧ b < w.heap.size ∧ w.cell? ⟨b, o + i, none⟩ = some (.string ⟨(l[i]?.getD []).toArray⟩)
/-- Texts as cells. -/
def strCells (l : List Str) : List Value := l.map fun s => .string ⟨s.toArray⟩
theorem infoStr : ∃ i z, Try.prog.info? 9 = some i ∧ i.zero = some z ∧ i.size = 1 ∧ i.bytes = 16 ∧ z.cells.size = 1 := by
  obtain ⟨i, h1, h2, h3, h4⟩ := info_of (P := Try.prog) (t := 9) (z := .string ⟨#[]⟩) (n := 1) (b := 16) (by kernel_rfl)
  exact ⟨i, _, h1, h2, h3, h4, rfl⟩
def cut (l : List Str) : List Str := (l.take 6).map few

set_option maxRecDepth 100000 in
set_option maxHeartbeats 800000 in
theorem cut_calls (v : Value) (l : List Str) (w : World) (h : StrsIn w v l) (hs : ∀ s ∈ l, s.length ≤ 9223372036854775807) :
    Calls Try.prog 18 #[v] w fun e w' => ∃ v', e = .returned v' ∧ Mod NoB w w' ∧ w'.ownsRow w.heap.size 9 1 v' (cut l).length (strCells (cut l)) := by
  obtain ⟨a, cap, rfl, hlc, hcm, hcell⟩ := h
  rw [maxLen_eq] at hcm
  obtain ⟨i, z, hi, hz, hz1, hz2, hz3⟩ := infoStr
  have HC := Lib.hid hcell
  have HS := Lib.hid hs
  clear hcell hs
  go_enter Try.func18, Try.ntmps18
  go_wp2
  go_loopw [3, 4] (fun u i wr => ∃ (k : Nat) (o : Value), o = u ∧ k ≤ l.length ∧ k ≤ 6 ∧ i = .int .i64 k ∧ Hid (wr.ownsRow w.heap.size 9 1 o k (strCells ((l.take k).map few))) ∧ Hid (Mod NoB w wr)) (fun _ i _ => l.length - (intOf i).toNat)
  case atStart =>
    refine ⟨0, _, rfl, by omega, by omega, rfl, ⟨rfl, .inr ⟨w.heap.size, 0, #[], rfl, Nat.le_refl _, heap_alloc_new _ _, Nat.le_refl _, by rw [maxLen_eq]; omega, rfl, rfl⟩⟩, (Mod.refl _ _).alloc _⟩
  case round =>
    obtain ⟨k, o, rfl, hk, hk6, rfl, HR, HM⟩ := hrel
    by_cases hlt : k < l.length ∧ k < 6
    · obtain ⟨hlt, hlt6⟩ := hlt
      obtain ⟨b, o, rfl, hb, hc⟩ := HC.out k hlt
      have hcw : wr.cell? ⟨b, o + k, none⟩ = some (.string ⟨(l[k]?.getD []).toArray⟩) := (World.cell?_of_block (w := w) (HM.out.block b hb id)).trans hc
      have hbw := Nat.lt_of_lt_of_le hb HM.out.size
      have hsl : (l[k]?.getD []).length ≤ 9223372036854775807 := HS.out _ (by rw [List.getElem?_eq_getElem hlt]; exact List.getElem_mem hlt)
      have htk : (l.take (k + 1)).map few = (l.take k).map few ++ [few (l[k]?.getD [])] := by
        rw [List.take_succ_eq_append_getElem hlt, List.map_append, List.getElem?_eq_getElem hlt]; rfl
      generalize l[k]?.getD [] = s at *
      have HTK := Lib.hid htk; clear htk
      have hap := run_append_own_at (P := Try.prog) (wr.alloc (.cells #[.string ⟨(few s).toArray⟩] 9)) w.heap.size 22 22 9 i z 1 16 Try.underlying22 hi hz hz1 hz2 hz3 (by omega) _ _ _
        (ownsRow_mod (G := NoB) HR.out ((Mod.refl _ _).alloc _) (fun _ _ => id)) ⟨wr.heap.size, 0, none⟩ 1 1 [.string ⟨(few s).toArray⟩] rfl (fun j u hj => by rw [Addr.add_mid, Nat.zero_add, cell_heap (heap_alloc_new wr _)]; simpa using hj) (by simp [Value.oneCell']) (by rw [maxLen_eq]; omega) (by omega) (by rw [size_alloc]; have := HM.out.size; omega)
      obtain ⟨v', w2, hrun, how, hgr, _, hblk⟩ := hap
      have HR2 : Hid (w2.ownsRow w.heap.size 9 1 v' (k + 1) (strCells ((l.take (k + 1)).map few))) := by
        show World.ownsRow _ _ _ _ _ _ _
        rw [HTK.out]
        simpa [strCells] using how
      have hlow := fun q hq => (HR.out.lt q hq).1
      have HM2 : Hid (Mod NoB w w2) := (HM.out.alloc _).grown hgr (fun q hq hl => absurd (hlow q hq) (by omega))
      clear how hgr hblk hlow hc
      go_wp2_with (first
        | (go_at_call 19; refine (few4_calls _ _ hsl).mono ?_; rintro e w' ⟨rfl, rfl⟩)
        | (at_builtin; refine wpList_append_run rfl _ _ _ rfl rfl rfl hrun ?_))
      go_roundw
      case rel => exact ⟨k + 1, _, rfl, by omega, by omega, by go_num, HR2, HM2⟩
      case measure => simp [intOf]; omega
    · have hres : cut l = (l.take k).map few := by
        unfold cut
        rcases Nat.lt_or_ge k l.length with h1 | h1
        · have : k = 6 := by omega
          rw [this]
        · rw [List.take_of_length_le h1, List.take_of_length_le (by omega)]
      have hlen : (cut l).length = k := by rw [hres, List.length_map, List.length_take]; omega
      have HFIN : Hid (wr.ownsRow w.heap.size 9 1 o (cut l).length (strCells (cut l))) := by
        show World.ownsRow _ _ _ _ _ _ _
        rw [hlen, hres]
        exact HR.out
      clear hres hlen
      by_cases h1 : k < l.length
      · have h2 : k = 6 := by omega
        subst h2
        go_wp2
        go_ret
        exact ⟨_, rfl, HM.out, HFIN.out⟩
      · go_wp2
        go_ret
        exact ⟨_, rfl, HM.out, HFIN.out⟩

end Go.Proofs.Ytgofngilfdnakaa
