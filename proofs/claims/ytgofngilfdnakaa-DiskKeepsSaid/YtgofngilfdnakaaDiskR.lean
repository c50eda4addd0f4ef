/-
  This text proves what disk's changes answer to a name that may not be: any length, a disk that has power.
-/
import Derived.Test.YtgofngilfdnakaaDiskE
import Derived.Test.YtgofngilfdnakaaDiskL
namespace Go.Proofs.Ytgofngilfdnakaa
open Go Go.RowKit
attribute [local go_sem] over_cell over_frozen lt_over le_over noB loudUpon ByteArray.mk_append_mk ByteArray.extract_mk

set_option maxHeartbeats 400000 in
theorem may1_all (s : Str) (w : World) (hs : s.length ≤ 9223372036854775807) :
    Calls Try.prog 130 #[.string ⟨s.toArray⟩] w fun e w' => e = .returned (.bool (!nameOk s)) ∧ Mod NoB w w' := by
  go_enter Try.func130, Try.ntmps130
  go_wp2_with fail
  refine (Name_all s _ hs).mono ?_
  rintro e w' ⟨rfl, hm⟩
  go_wp2_with fail
  go_ret
  exact ⟨rfl, hm⟩

set_option maxRecDepth 100000 in
set_option maxHeartbeats 800000 in
theorem IndexFunc_all (g : Nat) (l : List Str) (c : Nat) (w : World) (h : NamesAt w g l) (hl : l.length ≤ 1000) (hs : ∀ s ∈ l, s.length ≤ 9223372036854775807) :
    Calls Try.prog 167 #[.slice (some ⟨g, 0, none⟩) l.length c, .func (.func 130) #[] #[]] w fun e w' => (∃ k : Int, e = .returned (.int .i64 k) ∧ (0 ≤ k ↔ l.any (fun s => !nameOk s) = true)) ∧ Mod NoB w w' := by
  have hg := lt_heap h
  have HS := Lib.hid hs; clear hs
  have HN := Lib.hid h; clear h
  have HM0 := Lib.hid (Mod.refl NoB w)
  go_enter Try.func167, Try.ntmps167
  go_wp2
  go_loopw [8] (fun i wr => ∃ (k : Nat), k ≤ l.length ∧ i = .int .i64 k ∧ Hid ((l.take k).any (fun s => !nameOk s) = false) ∧ Hid (Mod NoB w wr)) (fun i _ => l.length - (intOf i).toNat)
  case atStart => exact ⟨0, by omega, rfl, by simp [Hid], HM0⟩
  case round =>
    obtain ⟨k, hk, rfl, H, HM⟩ := hrel
    by_cases hlt : k < l.length
    · have hcell : wr.cell? ⟨g, k, none⟩ = some (.string ⟨(l[k]?.getD []).toArray⟩) := by
        rw [World.cell?_of_block (w := w) (HM.out.block g hg id)]
        exact HN.out.cell hlt
      have hsn : l.take (k + 1) = l.take k ++ [l[k]?.getD []] := by
        rw [List.take_succ_eq_append_getElem hlt, List.getElem?_eq_getElem hlt]
        rfl
      have hmem : l[k]?.getD [] ∈ l := by rw [List.getElem?_eq_getElem hlt]; exact List.getElem_mem hlt
      have hle := HS.out _ hmem
      have HSN := Lib.hid hsn; clear hsn
      have HMEM := Lib.hid hmem; clear hmem
      generalize hs' : l[k]?.getD [] = s at *
      clear hs'
      cases hb : nameOk s with
      | true =>
        have HB := Lib.hid hb
        go_wp2_with fail
        refine (may1_all s _ hle).mono ?_
        rintro e w2 ⟨rfl, hm⟩
        rw [HB.out]
        have HM2 : Hid (Mod NoB w w2) := HM.out.trans hm (fun _ _ h => h)
        clear hm hb
        go_wp2_with fail
        go_roundw
        case rel => exact ⟨k + 1, by omega, by go_num, by show (l.take (k + 1)).any _ = false; rw [HSN.out, List.any_append, H.out]; simp [HB.out], HM2⟩
        case measure => simp [intOf]; omega
      | false =>
        have HB := Lib.hid hb
        go_wp2_with fail
        refine (may1_all s _ hle).mono ?_
        rintro e w2 ⟨rfl, hm⟩
        rw [HB.out]
        have HM2 : Hid (Mod NoB w w2) := HM.out.trans hm (fun _ _ h => h)
        clear hm hb
        go_wp2_with fail
        go_ret
        exact ⟨⟨k, rfl, fun _ => by rw [List.any_eq_true]; exact ⟨s, HMEM.out, by simp [HB.out]⟩, fun _ => by omega⟩, HM2.out⟩
    · have hk' : k = l.length := by omega
      have h1 := H.out
      rw [hk', List.take_length] at h1
      have HH := Lib.hid h1; clear h1
      go_wp2_with fail
      go_ret
      exact ⟨⟨-1, rfl, fun h => absurd h (by decide), fun h => by rw [HH.out] at h; cases h⟩, HM.out⟩

set_option maxHeartbeats 400000 in
theorem ContainsFunc_all (g : Nat) (l : List Str) (c : Nat) (w : World) (h : NamesAt w g l) (hl : l.length ≤ 1000) (hs : ∀ s ∈ l, s.length ≤ 9223372036854775807) :
    Calls Try.prog 129 #[.slice (some ⟨g, 0, none⟩) l.length c, .func (.func 130) #[] #[]] w fun e w' => e = .returned (.bool (l.any fun s => !nameOk s)) ∧ Mod NoB w w' := by
  have HC := Lib.hid (IndexFunc_all g l c w h hl hs)
  clear hs
  go_enter Try.func129, Try.ntmps129
  go_wp2_with fail
  refine HC.out.mono ?_
  rintro e w' ⟨⟨k, rfl, hk⟩, hm⟩
  cases hb : l.any fun s => !nameOk s with
  | true =>
    have hk0 := hk.2 hb
    clear hk
    have HB := Lib.hid hb; clear hb
    go_wp2_with fail
    go_ret
    rw [HB.out]
    exact ⟨by simp, hm⟩
  | false =>
    have hk0 : ¬ 0 ≤ k := fun h => by rw [hk.1 h] at hb; cases hb
    clear hk
    have HB := Lib.hid hb; clear hb
    go_wp2_with fail
    go_ret
    rw [HB.out]
    exact ⟨by simp [hk0], hm⟩

set_option maxRecDepth 100000 in
set_option maxHeartbeats 800000 in
theorem may_bad (p : Nat) (S : Nat → Prop) (d : Dk) (must : Bool) (g : Nat) (n0 : Str) (names : List Str) (c : Nat) (w : World) (h : Disk w p S d) (hn : NamesAt w g (n0 :: names)) (hl : (n0 :: names).length ≤ 1000) (hs : ∀ s ∈ n0 :: names, s.length ≤ 9223372036854775807) (hdn : d.down = false) (hany : (n0 :: names).any (fun s => !nameOk s) = true) :
    Calls Try.prog 87 #[.pointer (some ⟨p, 0, none⟩), .bool must, .slice (some ⟨g, 0, none⟩) (n0 :: names).length c] w fun e w' => e = .returned (.int .i64 30) ∧ Mod NoB w w' := by
  have HD := Lib.hid (fun w (hm : Mod NoB _ w) => Dead_calls p S d w (h.mod hm (fun _ _ => id)))
  have HC := Lib.hid (ContainsFunc_all g (n0 :: names) c w hn hl hs)
  clear hn hs
  generalize hnm : (n0 :: names).length = nl at *
  rw [hdn] at HD
  rw [hany] at HC
  clear hnm hany
  go_enter Try.func87, Try.ntmps87
  go_wp2_with fail
  refine (HD.out _ (Mod.refl _ _)).mono ?_
  rintro e w' ⟨rfl, rfl⟩
  go_wp2_with fail
  refine HC.out.mono ?_
  rintro e w' ⟨rfl, hm⟩
  go_wp2_with fail
  go_ret
  exact ⟨rfl, hm⟩

set_option maxRecDepth 100000 in
set_option maxHeartbeats 1600000 in
theorem Append_bad (p : Nat) (S : Nat → Prop) (d : Dk) (name s : Str) (w : World) (h : Disk w p S d) (hn : name.length ≤ 9223372036854775807) (hd : d.down = false) (hb : nameOk name = false) :
    Calls Try.prog 95 #[.pointer (some ⟨p, 0, none⟩), .string ⟨name.toArray⟩, .string ⟨s.toArray⟩] w fun e w' => e = .returned (.int .i64 30) ∧ Mod NoB w w' := by
  have hm0 : Mod NoB w (w.alloc (.cells #[.string ⟨name.toArray⟩] 9)) := (Mod.refl _ _).alloc _
  have HMAY := Lib.hid (may_bad p S d false w.heap.size name [] 1 _ (h.mod hm0 (fun _ _ => id)) (heap_alloc_new _ _) (by simp) (by intro s hs; simp only [List.mem_cons, List.not_mem_nil, or_false] at hs; first | (rcases hs with rfl | rfl <;> assumption) | (subst hs; assumption)) hd (by first | (simp [hb]; done) | (rcases hb with hb | hb <;> simp [hb])))
  clear hm0 h hb
  go_enter Try.func95, Try.ntmps95
  go_wp2_with fail
  refine HMAY.out.mono ?_
  rintro e w' ⟨rfl, hm⟩
  go_wp2_with fail
  go_ret
  exact ⟨rfl, ((Mod.refl _ _).alloc _).trans hm (fun _ _ h => h)⟩

set_option maxRecDepth 100000 in
set_option maxHeartbeats 1600000 in
theorem Write_bad (p : Nat) (S : Nat → Prop) (d : Dk) (name s : Str) (w : World) (h : Disk w p S d) (hn : name.length ≤ 9223372036854775807) (hd : d.down = false) (hb : nameOk name = false) :
    Calls Try.prog 23 #[.pointer (some ⟨p, 0, none⟩), .string ⟨name.toArray⟩, .string ⟨s.toArray⟩] w fun e w' => e = .returned (.int .i64 30) ∧ Mod NoB w w' := by
  have hm0 : Mod NoB w (w.alloc (.cells #[.string ⟨name.toArray⟩] 9)) := (Mod.refl _ _).alloc _
  have HMAY := Lib.hid (may_bad p S d false w.heap.size name [] 1 _ (h.mod hm0 (fun _ _ => id)) (heap_alloc_new _ _) (by simp) (by intro s hs; simp only [List.mem_cons, List.not_mem_nil, or_false] at hs; first | (rcases hs with rfl | rfl <;> assumption) | (subst hs; assumption)) hd (by first | (simp [hb]; done) | (rcases hb with hb | hb <;> simp [hb])))
  clear hm0 h hb
  go_enter Try.func23, Try.ntmps23
  go_wp2_with fail
  refine HMAY.out.mono ?_
  rintro e w' ⟨rfl, hm⟩
  go_wp2_with fail
  go_ret
  exact ⟨rfl, ((Mod.refl _ _).alloc _).trans hm (fun _ _ h => h)⟩

set_option maxRecDepth 100000 in
set_option maxHeartbeats 1600000 in
theorem Remove_bad (p : Nat) (S : Nat → Prop) (d : Dk) (name : Str) (w : World) (h : Disk w p S d) (hn : name.length ≤ 9223372036854775807) (hd : d.down = false) (hb : nameOk name = false) :
    Calls Try.prog 91 #[.pointer (some ⟨p, 0, none⟩), .string ⟨name.toArray⟩] w fun e w' => e = .returned (.int .i64 30) ∧ Mod NoB w w' := by
  have hm0 : Mod NoB w (w.alloc (.cells #[.string ⟨name.toArray⟩] 9)) := (Mod.refl _ _).alloc _
  have HMAY := Lib.hid (may_bad p S d true w.heap.size name [] 1 _ (h.mod hm0 (fun _ _ => id)) (heap_alloc_new _ _) (by simp) (by intro s hs; simp only [List.mem_cons, List.not_mem_nil, or_false] at hs; first | (rcases hs with rfl | rfl <;> assumption) | (subst hs; assumption)) hd (by first | (simp [hb]; done) | (rcases hb with hb | hb <;> simp [hb])))
  clear hm0 h hb
  go_enter Try.func91, Try.ntmps91
  go_wp2_with fail
  refine HMAY.out.mono ?_
  rintro e w' ⟨rfl, hm⟩
  go_wp2_with fail
  go_ret
  exact ⟨rfl, ((Mod.refl _ _).alloc _).trans hm (fun _ _ h => h)⟩

set_option maxRecDepth 100000 in
set_option maxHeartbeats 1600000 in
theorem Truncate_bad (p : Nat) (S : Nat → Prop) (d : Dk) (name : Str) (n : Int) (w : World) (h : Disk w p S d) (hn : name.length ≤ 9223372036854775807) (hd : d.down = false) (hb : nameOk name = false) :
    Calls Try.prog 93 #[.pointer (some ⟨p, 0, none⟩), .string ⟨name.toArray⟩, .int .i64 n] w fun e w' => e = .returned (.int .i64 30) ∧ Mod NoB w w' := by
  have hm0 : Mod NoB w (w.alloc (.cells #[.string ⟨name.toArray⟩] 9)) := (Mod.refl _ _).alloc _
  have HMAY := Lib.hid (may_bad p S d true w.heap.size name [] 1 _ (h.mod hm0 (fun _ _ => id)) (heap_alloc_new _ _) (by simp) (by intro s hs; simp only [List.mem_cons, List.not_mem_nil, or_false] at hs; first | (rcases hs with rfl | rfl <;> assumption) | (subst hs; assumption)) hd (by first | (simp [hb]; done) | (rcases hb with hb | hb <;> simp [hb])))
  clear hm0 h hb
  go_enter Try.func93, Try.ntmps93
  go_wp2_with fail
  refine HMAY.out.mono ?_
  rintro e w' ⟨rfl, hm⟩
  go_wp2_with fail
  go_ret
  exact ⟨rfl, ((Mod.refl _ _).alloc _).trans hm (fun _ _ h => h)⟩

set_option maxRecDepth 100000 in
set_option maxHeartbeats 1600000 in
theorem Move_bad (p : Nat) (S : Nat → Prop) (d : Dk) (name to : Str) (w : World) (h : Disk w p S d) (hn : name.length ≤ 9223372036854775807) (ht : to.length ≤ 9223372036854775807) (hd : d.down = false) (hb : nameOk name = false ∨ nameOk to = false) :
    Calls Try.prog 101 #[.pointer (some ⟨p, 0, none⟩), .string ⟨name.toArray⟩, .string ⟨to.toArray⟩] w fun e w' => e = .returned (.int .i64 30) ∧ Mod NoB w w' := by
  have hm0 : Mod NoB w (w.alloc (.cells #[.string ⟨name.toArray⟩, .string ⟨to.toArray⟩] 9)) := (Mod.refl _ _).alloc _
  have HMAY := Lib.hid (may_bad p S d true w.heap.size name [to] 2 _ (h.mod hm0 (fun _ _ => id)) (heap_alloc_new _ _) (by simp) (by intro s hs; simp only [List.mem_cons, List.not_mem_nil, or_false] at hs; first | (rcases hs with rfl | rfl <;> assumption) | (subst hs; assumption)) hd (by first | (simp [hb]; done) | (rcases hb with hb | hb <;> simp [hb])))
  clear hm0 h hb
  go_enter Try.func101, Try.ntmps101
  go_wp2_with fail
  refine HMAY.out.mono ?_
  rintro e w' ⟨rfl, hm⟩
  go_wp2_with fail
  go_ret
  exact ⟨rfl, ((Mod.refl _ _).alloc _).trans hm (fun _ _ h => h)⟩

end Go.Proofs.Ytgofngilfdnakaa
