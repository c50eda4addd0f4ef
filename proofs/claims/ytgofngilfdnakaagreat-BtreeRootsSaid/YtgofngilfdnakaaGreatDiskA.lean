/-
  This text proves what disk.Name and the look at names in disk.may compute, of names of at most 2^47 - 4096 bytes.
-/
import Derived.Test.YtgofngilfdnakaaGreatFiles
import Derived.Test.YtgofngilfdnakaaGreatWire
namespace Go.Proofs.YtgofngilfdnakaaGreat
open Go Go.RowKit
attribute [local go_sem] over_cell over_frozen lt_over le_over noB loudUpon ByteArray.mk_append_mk ByteArray.extract_mk

def okByte (c : UInt8) : Bool := (decide (97 ≤ c) && decide (c ≤ 122)) || c == 46
theorem nameOk_eq (s : Str) : nameOk s = (!s.isEmpty && decide (s.length ≤ 16) && s.all okByte) := rfl
theorem okByte_iff (c : UInt8) : okByte c = true ↔ (97 ≤ c.toNat ∧ c.toNat ≤ 122) ∨ c.toNat = 46 := by
  unfold okByte
  simp only [Bool.or_eq_true, Bool.and_eq_true, decide_eq_true_eq, beq_iff_eq, UInt8.le_iff_toNat_le]
  have : c = 46 ↔ c.toNat = 46 := ⟨fun h => by rw [h]; rfl, fun h => UInt8.toNat_inj.1 h⟩
  rw [this]
  rfl

set_option maxRecDepth 100000 in
set_option maxHeartbeats 800000 in
theorem Name_calls (s : Str) (w : World) (hs : s.length ≤ 140737488351232) :
    Calls Tryz.prog 162 #[.string ⟨s.toArray⟩] w fun e w' => e = .returned (.bool (nameOk s)) ∧ Mod NoB w w' := by
  rw [nameOk_eq]
  by_cases h0 : s = []
  · subst h0
    go_enter Tryz.func162, Tryz.ntmps162
    go_wp2
    go_ret
    exact ⟨rfl, Mod.refl _ _⟩
  · have h0' : s.isEmpty = false := by simpa using h0
    by_cases h1 : 16 < s.length
    · have hfin : (!s.isEmpty && decide (s.length ≤ 16) && s.all okByte) = false := by
        have : ¬ s.length ≤ 16 := by omega
        simp [this]
      rw [hfin]
      clear hfin
      go_enter Tryz.func162, Tryz.ntmps162
      go_wp2
      go_ret
      exact ⟨rfl, Mod.refl _ _⟩
    · have hfin : (!s.isEmpty && decide (s.length ≤ 16) && s.all okByte) = s.all okByte := by
        have : s.length ≤ 16 := by omega
        simp [h0, this]
      rw [hfin]
      clear hfin
      have hc := Lib.run_convert_string_bytes (P := Tryz.prog) w 9 166 5 ⟨s.toArray⟩ Tryz.underlying9 Tryz.underlying166 Tryz.underlying5
      have hm := mod_bytesWorld NoB w 5 ⟨s.toArray⟩
      have hcell : ∀ j, j < s.length → (Lib.bytesWorld w 5 ⟨s.toArray⟩).cell? ⟨w.heap.size, j, none⟩ = some (.int .u8 ((s[j]?.getD 0).toNat : Int)) := fun j hj => by
        rw [Lib.bytesWorld_cell w 5 ⟨s.toArray⟩ j (by simpa [ByteArray.size] using hj)]
        simp [List.getD]
      generalize Lib.bytesWorld w 5 ⟨s.toArray⟩ = W at *
      have HM := Lib.hid hm; clear hm
      have HC := Lib.hid hcell; clear hcell
      have h1' : s.length ≤ 16 := by omega
      go_enter Tryz.func162, Tryz.ntmps162
      go_wp2
      go_loop [15] (fun i => ∃ (k : Nat), k ≤ s.length ∧ i = .int .i64 k ∧ Hid ((s.take k).all okByte = true)) (fun i => s.length - (intOf i).toNat)
      case atStart => exact ⟨0, by omega, rfl, by simp [Hid]⟩
      case round =>
        obtain ⟨k, hk, rfl, H⟩ := hrel
        by_cases hlt : k < s.length
        · have hcell := HC.out k hlt
          have hsn := take_snoc' s k hlt
          have hcl := (s[k]?.getD 0).toNat_lt
          have hok := okByte_iff (s[k]?.getD 0)
          have hnot : okByte (s[k]?.getD 0) = false → s.all okByte = false := fun h => by
            rw [← Bool.not_eq_true, List.all_eq_true]
            intro hall
            have := hall (s[k]?.getD 0) (by rw [List.getElem?_eq_getElem hlt]; exact List.getElem_mem hlt)
            rw [h] at this
            cases this
          have HS := Lib.hid hsn; clear hsn
          have HNOT := Lib.hid hnot; clear hnot
          generalize s[k]?.getD 0 = c at *
          have HOK := Lib.hid hok; clear hok
          have next : okByte c = true → Hid ((s.take (k + 1)).all okByte = true) := fun h => by
            show (s.take (k + 1)).all okByte = true
            rw [HS.out, List.all_append, H.out]
            simp [h]
          have NEXT := Lib.hid next; clear next
          by_cases g1 : c.toNat < 97
          · by_cases g2 : c.toNat = 46
            · have g2' : (((c.toNat : Nat) : Int) != 46) = false := by simp [g2]
              have G := Lib.hid g2; clear g2
              go_wp2
              go_round
              case rel => exact ⟨k + 1, by omega, by go_num, NEXT.out (HOK.out.2 (.inr G.out))⟩
              case measure => simp [intOf]; omega
            · have g2' : (((c.toNat : Nat) : Int) != 46) = true := by simp; omega
              go_wp2
              go_ret
              rw [HNOT.out (by rw [← Bool.not_eq_true, HOK.out]; omega)]
              exact ⟨rfl, HM.out⟩
          · by_cases g3 : 122 < c.toNat
            · have g2' : (((c.toNat : Nat) : Int) != 46) = true := by simp; omega
              go_wp2
              go_ret
              rw [HNOT.out (by rw [← Bool.not_eq_true, HOK.out]; omega)]
              exact ⟨rfl, HM.out⟩
            · go_wp2
              go_round
              case rel => exact ⟨k + 1, by omega, by go_num, NEXT.out (HOK.out.2 (.inl ⟨by omega, by omega⟩))⟩
              case measure => simp [intOf]; omega
        · have hk' : k = s.length := by omega
          have h1 := H.out
          rw [hk', List.take_length] at h1
          have HH := Lib.hid h1; clear h1
          go_wp2
          go_ret
          rw [HH.out]
          exact ⟨rfl, HM.out⟩

set_option maxHeartbeats 400000 in
theorem may1_calls (s : Str) (w : World) (hs : s.length ≤ 140737488351232) :
    Calls Tryz.prog 161 #[.string ⟨s.toArray⟩] w fun e w' => e = .returned (.bool (!nameOk s)) ∧ Mod NoB w w' := by
  go_enter Tryz.func161, Tryz.ntmps161
  go_wp2_with fail
  refine (Name_calls s _ hs).mono ?_
  rintro e w' ⟨rfl, hm⟩
  go_wp2_with fail
  go_ret
  exact ⟨rfl, hm⟩

/-- Names that lie in a row. -/
def NamesAt (w : World) (g : Nat) (l : List Str) : Prop := w.heap[g]? = some (.cells ((l.map fun s => Value.string ⟨s.toArray⟩).toArray) 9 (0, 0))
theorem NamesAt.cell {w : World} {g : Nat} {l : List Str} (h : NamesAt w g l) {i : Nat} (hi : i < l.length) : w.cell? ⟨g, i, none⟩ = some (.string ⟨(l[i]?.getD []).toArray⟩) := by
  rw [cell_heap h]
  simp [List.getElem?_eq_getElem hi]

set_option maxRecDepth 100000 in
set_option maxHeartbeats 800000 in
theorem IndexFunc_calls (g : Nat) (l : List Str) (c : Nat) (w : World) (h : NamesAt w g l) (hl : l.length ≤ 1000) (hs : ∀ s ∈ l, s.length ≤ 140737488351232) :
    Calls Tryz.prog 173 #[.slice (some ⟨g, 0, none⟩) l.length c, .func (.func 161) #[] #[]] w fun e w' => (∃ k : Int, e = .returned (.int .i64 k) ∧ (0 ≤ k ↔ l.any (fun s => !nameOk s) = true)) ∧ Mod NoB w w' := by
  have hg := lt_heap h
  have HS := Lib.hid hs; clear hs
  have HN := Lib.hid h; clear h
  have HM0 := Lib.hid (Mod.refl NoB w)
  go_enter Tryz.func173, Tryz.ntmps173
  go_wp2
  go_loopw [8] (fun i wr => ∃ (k : Nat), k ≤ l.length ∧ i = .int .i64 k ∧ Hid ((l.take k).any (fun s => !nameOk s) = false) ∧ Hid (Mod NoB w wr)) (fun i _ => l.length - (intOf i).toNat)
  case atStart => exact ⟨0, by omega, rfl, by simp [Hid], HM0⟩
  case round =>
    obtain ⟨k, hk, rfl, H, HM⟩ := hrel
    by_cases hlt : k < l.length
    · have hcell : wr.cell? ⟨g, k, none⟩ = some (.string ⟨(l[k]?.getD []).toArray⟩) := by
        rw [World.cell?_of_block (w := w) (HM.out.block g hg id)]
        exact HN.out.cell hlt
      have hsn : l.take (k + 1) = l.take k ++ [l[k]?.getD []] := by
        rw [List.take_succ_eq_append_getElem hlt, List.getElem?_eq_getElem hlt]
        rfl
      have hmem : l[k]?.getD [] ∈ l := by rw [List.getElem?_eq_getElem hlt]; exact List.getElem_mem hlt
      have hle := HS.out _ hmem
      have HSN := Lib.hid hsn; clear hsn
      have HMEM := Lib.hid hmem; clear hmem
      generalize hs' : l[k]?.getD [] = s at *
      clear hs'
      cases hb : nameOk s with
      | true =>
        have HB := Lib.hid hb
        go_wp2_with fail
        refine (may1_calls s _ hle).mono ?_
        rintro e w2 ⟨rfl, hm⟩
        rw [HB.out]
        have HM2 : Hid (Mod NoB w w2) := HM.out.trans hm (fun _ _ h => h)
        clear hm hb
        go_wp2_with fail
        go_roundw
        case rel => exact ⟨k + 1, by omega, by go_num, by show (l.take (k + 1)).any _ = false; rw [HSN.out, List.any_append, H.out]; simp [HB.out], HM2⟩
        case measure => simp [intOf]; omega
      | false =>
        have HB := Lib.hid hb
        go_wp2_with fail
        refine (may1_calls s _ hle).mono ?_
        rintro e w2 ⟨rfl, hm⟩
        rw [HB.out]
        have HM2 : Hid (Mod NoB w w2) := HM.out.trans hm (fun _ _ h => h)
        clear hm hb
        go_wp2_with fail
        go_ret
        exact ⟨⟨k, rfl, fun _ => by rw [List.any_eq_true]; exact ⟨s, HMEM.out, by simp [HB.out]⟩, fun _ => by omega⟩, HM2.out⟩
    · have hk' : k = l.length := by omega
      have h1 := H.out
      rw [hk', List.take_length] at h1
      have HH := Lib.hid h1; clear h1
      go_wp2_with fail
      go_ret
      exact ⟨⟨-1, rfl, fun h => absurd h (by decide), fun h => by rw [HH.out] at h; cases h⟩, HM.out⟩

set_option maxHeartbeats 400000 in
theorem ContainsFunc_calls (g : Nat) (l : List Str) (c : Nat) (w : World) (h : NamesAt w g l) (hl : l.length ≤ 1000) (hs : ∀ s ∈ l, s.length ≤ 140737488351232) :
    Calls Tryz.prog 154 #[.slice (some ⟨g, 0, none⟩) l.length c, .func (.func 161) #[] #[]] w fun e w' => e = .returned (.bool (l.any fun s => !nameOk s)) ∧ Mod NoB w w' := by
  have HC := Lib.hid (IndexFunc_calls g l c w h hl hs)
  clear hs
  go_enter Tryz.func154, Tryz.ntmps154
  go_wp2_with fail
  refine HC.out.mono ?_
  rintro e w' ⟨⟨k, rfl, hk⟩, hm⟩
  cases hb : l.any fun s => !nameOk s with
  | true =>
    have hk0 := hk.2 hb
    clear hk
    have HB := Lib.hid hb; clear hb
    go_wp2_with fail
    go_ret
    rw [HB.out]
    exact ⟨by simp, hm⟩
  | false =>
    have hk0 : ¬ 0 ≤ k := fun h => by rw [hk.1 h] at hb; cases hb
    clear hk
    have HB := Lib.hid hb; clear hb
    go_wp2_with fail
    go_ret
    rw [HB.out]
    exact ⟨by simp [hk0], hm⟩

end Go.Proofs.YtgofngilfdnakaaGreat
