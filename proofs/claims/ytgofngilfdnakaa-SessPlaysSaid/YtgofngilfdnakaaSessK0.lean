/-
  This text proves what a step of kind 0 (Open) does in cupellaw20.SessPlays: under bounds that every argument keeps.
-/
import Derived.Test.YtgofngilfdnakaaSessV
namespace Go.Proofs.Ytgofngilfdnakaa
open Go Go.RowKit
attribute [local go_sem] over_cell over_frozen lt_over le_over noB loudUpon

set_option maxRecDepth 100000 in
set_option maxHeartbeats 12800000 in
theorem sess_k0 (w Wa : World) (t b D k g nm cm i n : Nat) (is : Bool) (s : Int) (Em Et : Es)
    (hp : PS w Wa t b k (.slice (some ⟨g, 0, none⟩) nm cm) Em Et) (hpl : pl Em = pl Et) (hd : KA Wa t b Et D #[.int .i64 0, .int .i64 s, .int .u32 n] 75) (hi : i = findAt Em s) (his : is = isAt Em s) (hk : k ≤ 300) (hs0 : -9223372036854775808 ≤ s) (hs1 : s ≤ 9223372036854775807)
    (u0 u1 u2 u5 u9 u10 u11 u12 u13 u14 u15 u16 u17 u18 u19 u20 u21 u22 u23 u24 u25 u26 u27 u28 u29 u30 u31 u32 u33 u34 u35 u36 u37 u38 u39 u40 u41 u42 u43 u44 u46 u47 u48 u49 u50 u51 u52 u53 u54 u55 u56 u57 u58 u59 u60 u61 u62 u63 u64 u65 u66 u67 u68 u69 u70 u71 u72 u73 u74 u75 u76 u77 u78 u79 u80 u81 u82 u83 u84 u85 u86 u87 u88 u89 u90 u91 u92 u93 u94 u95 u96 u97 u98 u99 u100 u101 u102 u103 u104 u105 u106 u107 u108 u109 u110 u111 u112 u113 u114 u115 u116 u117 u118 u119 u120 u121 u122 u123 u124 u125 u126 u127 u128 u129 u130 u131 u132 u133 u134 u135 u136 u137 u138 u139 u140 u141 u142 u143 u144 u145 u146 u147 u148 u149 u150 u151 u152 u153 u154 u155 u156 u157 u158 u159 u160 u161 u162 u163 u164 u165 u166 u167 u168 u169 u170 u171 u172 u173 u174 u175 u176 u177 u178 u179 u180 u181 u182 u183 u184 u185 u186 u187 u188 u189 u190 u191 u192 u193 u194 u195 u196 u197 u198 u199 u200 u201 : Value) (K : Act → World → Prop) (Q' : Exit → Act → World → Prop)
    (hK : ∀ (z4 z9 z10 z11 z12 z13 z14 z46 z47 z48 z49 z50 z51 z52 z53 z54 z55 z56 z57 z58 z59 z60 z61 z62 z63 z64 z65 z66 z67 z68 z69 z70 z71 z72 z73 z74 z75 z76 z77 z78 z79 z80 z81 z82 z83 z84 z85 z86 z87 z88 z89 z90 z91 z92 z93 z94 z95 z96 z97 z98 z99 z100 z101 z102 z103 z104 z105 z106 z107 z108 z109 z110 z111 z112 z113 z114 z115 z116 z117 z118 z119 z120 z121 z122 z123 z124 z125 z126 z127 z128 z129 z130 z131 z132 z133 z134 z135 z136 z137 z138 z139 z140 z141 z142 z143 z144 z145 z146 z147 z148 z149 z150 z151 z152 z153 z154 z155 z156 z157 z158 z159 z160 z161 z162 z163 z164 z165 z166 z167 z168 z169 z170 z171 z172 z173 z174 z175 z176 z177 z178 z179 z180 z181 z182 z183 z184 z185 z186 z187 z188 z189 z190 z191 z192 z193 z194 z195 : Value) (wx : World), SG w wx t b D k (.int .i64 0) (.int .i64 s) (.int .u32 n) z4 → K ⟨#[u0, u1, u2, .pointer (some ⟨t, 0, none⟩), z4, u5, .pointer (some ⟨D, 0, none⟩), .int .i64 i, .bool is, z9, z10, z11, z12, z13, z14, u15, u16, u17, u18, u19, u20, u21, u22, u23, u24, u25, u26, u27, u28, u29, u30, u31, u32, u33, u34, u35, u36, u37, u38, u39, u40, u41, u42, u43, u44, .int .i64 0, z46, z47, z48, z49, z50, z51, z52, z53, z54, z55, z56, z57, z58, z59, z60, z61, z62, z63, z64, z65, z66, z67, z68, z69, z70, z71, z72, z73, z74, z75, z76, z77, z78, z79, z80, z81, z82, z83, z84, z85, z86, z87, z88, z89, z90, z91, z92, z93, z94, z95, z96, z97, z98, z99, z100, z101, z102, z103, z104, z105, z106, z107, z108, z109, z110, z111, z112, z113, z114, z115, z116, z117, z118, z119, z120, z121, z122, z123, z124, z125, z126, z127, z128, z129, z130, z131, z132, z133, z134, z135, z136, z137, z138, z139, z140, z141, z142, z143, z144, z145, z146, z147, z148, z149, z150, z151, z152, z153, z154, z155, z156, z157, z158, z159, z160, z161, z162, z163, z164, z165, z166, z167, z168, z169, z170, z171, z172, z173, z174, z175, z176, z177, z178, z179, z180, z181, z182, z183, z184, z185, z186, z187, z188, z189, z190, z191, z192, z193, z194, z195, u196, u197, u198, u199, u200, u201], []⟩ wx) :
    Code.wp Try.prog blkS (Exit.then K (loudS Q')) ⟨#[u0, u1, u2, .pointer (some ⟨t, 0, none⟩), .slice (some ⟨g, 0, none⟩) nm cm, u5, .pointer (some ⟨D, 0, none⟩), .int .i64 i, .bool is, u9, u10, u11, u12, u13, u14, u15, u16, u17, u18, u19, u20, u21, u22, u23, u24, u25, u26, u27, u28, u29, u30, u31, u32, u33, u34, u35, u36, u37, u38, u39, u40, u41, u42, u43, u44, .int .i64 0, u46, u47, u48, u49, u50, u51, u52, u53, u54, u55, u56, u57, u58, u59, u60, u61, u62, u63, u64, u65, u66, u67, u68, u69, u70, u71, u72, u73, u74, u75, u76, u77, u78, u79, u80, u81, u82, u83, u84, u85, u86, u87, u88, u89, u90, u91, u92, u93, u94, u95, u96, u97, u98, u99, u100, u101, u102, u103, u104, u105, u106, u107, u108, u109, u110, u111, u112, u113, u114, u115, u116, u117, u118, u119, u120, u121, u122, u123, u124, u125, u126, u127, u128, u129, u130, u131, u132, u133, u134, u135, u136, u137, u138, u139, u140, u141, u142, u143, u144, u145, u146, u147, u148, u149, u150, u151, u152, u153, u154, u155, u156, u157, u158, u159, u160, u161, u162, u163, u164, u165, u166, u167, u168, u169, u170, u171, u172, u173, u174, u175, u176, u177, u178, u179, u180, u181, u182, u183, u184, u185, u186, u187, u188, u189, u190, u191, u192, u193, u194, u195, u196, u197, u198, u199, u200, u201], []⟩ Wa := by
  obtain ⟨_, hg0, hnm, hnc⟩ := ops_some hp.ms.ops (by simp)
  clear hg0
  have hle := hp.ts.length
  have hlen := pl_len hpl
  have hix : i ≤ Em.length := by rw [hi]; exact List.Sublist.length_le (List.takeWhile_sublist _)
  have hsz : w.heap.size ≤ Wa.heap.size := hp.mod.size
  have hn64 : nm ≤ 64 := by omega
  have hin : i ≤ nm := by omega
  have HP := Lib.hid hp
  have HPL := Lib.hid hpl
  have HD := Lib.hid hd
  have HI := Lib.hid hi
  have HIS := Lib.hid his
  have HNM := Lib.hid hnm
  clear hp hpl hd hi his hle hlen hix hnm
  conv => arg 2; whnf
  obtain ⟨db, d0, d1, d2, df⟩ := Act3.facts HD.out.cells
  by_cases hs : 0 ≤ s ∧ s < 64
  · obtain ⟨h0, h1⟩ := hs
    have HOP := Lib.hid (TOpen w.heap.size t b k Et s Wa HP.out.ts h0 h1 (by omega))
    cases is with
    | true =>
      go_wp2_with (go_at_call 49; refine HOP.out.mono ?_; rintro e W1 ⟨rfl, E', ht1, hst1, hcase⟩; have HT1 := Lib.hid ht1; have HST1 := Lib.hid hst1; have HCA := Lib.hid hcase; clear ht1 hst1 hcase)
      first | (refine hK _ _ _ _ _ _ _ _ _ _ _ _ _ _ _ _ _ _ _ _ _ _ _ _ _ _ _ _ _ _ _ _ _ _ _ _ _ _ _ _ _ _ _ _ _ _ _ _ _ _ _ _ _ _ _ _ _ _ _ _ _ _ _ _ _ _ _ _ _ _ _ _ _ _ _ _ _ _ _ _ _ _ _ _ _ _ _ _ _ _ _ _ _ _ _ _ _ _ _ _ _ _ _ _ _ _ _ _ _ _ _ _ _ _ _ _ _ _ _ _ _ _ _ _ _ _ _ _ _ _ _ _ _ _ _ _ _ _ _ _ _ _ _ _ _ _ _ _ _ _ _ _ _ _ _ _ _ _ ?_) | skip
      rcases HCA.out with ⟨_, rfl⟩ | ⟨h2, _⟩
      · exact ⟨g, nm, cm, rfl, k + 1, Em, _, by omega, HP.out.step HST1.out HT1.out, HPL.out, HD.out.step HST1.out⟩
      · rw [← isAt_pl HPL.out, ← HIS.out] at h2
        cases h2
    | false =>
      have HARM : Hid (∀ W1 E', TS w.heap.size W1 t b (k + 1) E' → Step Wa W1 t b Et E' → ((isAt Et s = true ∧ E' = Et) ∨ (isAt Et s = false ∧ E' = insAt Et (findAt Et s) (s, .slice none 0 0, []))) → PS w W1 t b (k + 1) (.slice (some ⟨g, 0, none⟩) nm cm) Em (insAt Et i (s, .slice none 0 0, [])) ∧ KA W1 t b (insAt Et i (s, .slice none 0 0, [])) D #[.int .i64 0, .int .i64 s, .int .u32 n] 75) := fun W1 E' ht1 hst1 hcase => by
        rcases hcase with ⟨h2, _⟩ | ⟨_, rfl⟩
        · rw [← isAt_pl HPL.out, ← HIS.out] at h2
          cases h2
        · rw [← findAt_pl HPL.out, ← HI.out] at hst1 ht1
          exact ⟨HP.out.step hst1 ht1, HD.out.step hst1⟩
      have hic : i ≤ cm := by omega
      go_upto_region 21 with (go_at_call 49; refine HOP.out.mono ?_; rintro e W1 ⟨rfl, E', ht1, hst1, hcase⟩; obtain ⟨hp1, hd1⟩ := HARM.out W1 E' ht1 hst1 hcase; have HP1 := Lib.hid hp1; have HD1 := Lib.hid hd1; clear ht1 hst1 hcase hp1 hd1)
      clear HOP HARM HD HP d0 d1 d2 df db
      obtain ⟨db, d0, d1, d2, df⟩ := Act3.facts HD1.out.cells
      have hin' : (i : Int) ≤ (nm : Int) := by omega
      have hi0' : (0 : Int) ≤ (i : Int) := by omega
      have HO : Hid (OpsAt W1 w.heap.size (.slice (some ⟨g, 0, none⟩) Em.length cm) Em) := by rw [← HNM.out]; exact HP1.out.ms.ops
      have HSL := Lib.hid HP1.out.ms.slices
      have hsz1 := HP1.out.mod.size
      have HPT : Hid (∀ X, Mod NoB W1 X → PartAt X 2 (.slice (some ⟨g, 0, none⟩) i cm) i (opCells (Em.take i))) := fun X hX => ops_part_take (ownsRow_mod HO.out hX (fun _ _ => id)) (by rw [← HNM.out]; exact hin) (by rw [← HNM.out]; exact hnc)
      have HPD : Hid (∀ X, Mod NoB W1 X → PartAt X 2 (.slice (if cm = i then some ⟨g, 0, none⟩ else some ⟨g, i * 2, none⟩) (nm - i) (cm - i)) (nm - i) (opCells (Em.drop i))) := fun X hX => by
        have := HNM.out
        rw [this] at hnc hin ⊢
        by_cases hci : cm = i
        · rw [if_pos hci]
          exact ops_part_drop (ownsRow_mod HO.out hX (fun _ _ => id)) hin (by omega) _ (fun h => by omega)
        · rw [if_neg hci]
          exact ops_part_drop (ownsRow_mod HO.out hX (fun _ _ => id)) hin (by omega) _ (fun _ => rfl)
      go_region_law (first
        | (refine step_own rfl (.tmp 95) (.tmp 98) 72 rfl (v := .slice (some ⟨_, 0, none⟩) 0 0) (v2 := .slice (some ⟨g, 0, none⟩) i cm) rfl rfl (base := W1.heap.size) (n := 0) (m := i) (xs := []) (ys := opCells (Em.take i)) i (opCells (Em.take i)) elemOp (by decide) ?_ ?_ ?_ ?_ ?_ rfl ?_ ?_
           · exact row_empty (by first | exact heap_alloc_at' _ _ _ rfl | exact heap_alloc_at' _ _ _ (by simp) | exact heap_alloc_old' _ _ _ (by (first | omega | (simp only [size_alloc]; omega) | (simp only [size_alloc, heap_drew]; omega))) (heap_alloc_at' _ _ _ (by first | rfl | simp))) (by (first | omega | (simp only [size_alloc]; omega) | (simp only [size_alloc, heap_drew]; omega)))
           · exact HPT.out _ (by (repeat (first | with_reducible exact Mod.refl _ _ | with_reducible refine Mod.drew ?_ | with_reducible refine Mod.alloc ?_ _)))
           · exact opCells_one (fun e he => HSL.out e (List.mem_of_mem_take he))
           · omega
           · omega
           · (first | omega | (simp only [size_alloc]; omega) | (simp only [size_alloc, heap_drew]; omega))
           intro b6 c6 W6 hr6 hg6 hk6
           have hW6 : Mod NoB W1 W6 := Mod.grown (by (repeat (first | with_reducible exact Mod.refl _ _ | with_reducible refine Mod.drew ?_ | with_reducible refine Mod.alloc ?_ _))) hg6 (fun q hq hl => by (try simp only [Value.ownBlock, Option.some.injEq] at hq); omega)
           have hn6 : b6 ≠ none := fun e => by subst e; rcases hk6 with e | e <;> cases e
           have hd6 := (hW6.block D db id).trans HD1.out.cells
           have t1 := (cell_heap hd6 1 : W6.cell? ⟨D, 1, none⟩ = some (.int .i64 s))
           have tb := lt_heap hd6)
        | (refine step_own rfl (.tmp 99) (.tmp 103) 72 rfl (v := .slice b6 i c6) (v2 := .slice (some ⟨_, 0, none⟩) 1 1) rfl rfl (base := W1.heap.size) (n := i) (m := 1) (xs := opCells (Em.take i)) (ys := [.int .i64 s, .slice none 0 0]) (i + 1) (opCells (Em.take i) ++ [.int .i64 s, .slice none 0 0]) elemOp (by decide) ?_ ?_ ?_ ?_ ?_ rfl ?_ ?_
           · exact ownsRow_mod hr6 (by (repeat (first | with_reducible exact Mod.refl _ _ | with_reducible refine Mod.drew ?_ | with_reducible refine Mod.alloc ?_ _))) (fun _ _ => id)
           · first | exact part_block (heap_alloc_at' _ _ _ (by first | rfl | simp)) rfl | exact part_block (grown_at hg6 (by first | exact heap_alloc_at' _ _ _ rfl | exact heap_alloc_at' _ _ _ (by simp) | exact heap_alloc_old' _ _ _ (by (first | omega | (simp only [size_alloc]; omega) | (simp only [size_alloc, heap_drew]; omega))) (heap_alloc_at' _ _ _ (by first | rfl | simp))) (by simp only [Value.ownBlock, ne_eq, Option.some.injEq]; omega)) rfl
           · intro u hu; simp only [List.mem_cons, List.not_mem_nil, or_false] at hu; rcases hu with rfl | rfl <;> rfl
           · omega
           · omega
           · have := hW6.size; (first | omega | (simp only [size_alloc]; omega) | (simp only [size_alloc, heap_drew]; omega))
           intro b7 c7 W7 hr7 hg7 hk7
           have hW7 : Mod NoB W1 W7 := hW6.trans (Mod.grown (F := fun q => W1.heap.size ≤ q) (by (repeat (first | with_reducible exact Mod.refl _ _ | with_reducible refine Mod.drew ?_ | with_reducible refine Mod.alloc ?_ _))) hg7 (fun q hq hl => (hr6.lt q hq).1)) (fun q hq h => by omega)
           have hn7 : b7 ≠ none := fun e => by subst e; rcases hr7.2 with ⟨_, h0⟩ | ⟨_, _, _, h0, _⟩; omega; cases h0)
        | (refine step_own rfl (.tmp 104) (.tmp 107) 72 rfl (v := .slice b7 (i + 1) c7) (v2 := .slice (if cm = i then some ⟨g, 0, none⟩ else some ⟨g, i * 2, none⟩) (nm - i) (cm - i)) rfl rfl (base := W1.heap.size) (n := i + 1) (m := nm - i) (xs := opCells (Em.take i) ++ [.int .i64 s, .slice none 0 0]) (ys := opCells (Em.drop i)) (nm + 1) (opCells (insAt Em i (s, .slice none 0 0, []))) elemOp (by decide) ?_ ?_ ?_ ?_ ?_ ?_ ?_ ?_
           · exact ownsRow_mod hr7 (by (repeat (first | with_reducible exact Mod.refl _ _ | with_reducible refine Mod.drew ?_ | with_reducible refine Mod.alloc ?_ _))) (fun _ _ => id)
           · exact HPD.out _ (hW7.trans (by (repeat (first | with_reducible exact Mod.refl _ _ | with_reducible refine Mod.drew ?_ | with_reducible refine Mod.alloc ?_ _))) (fun _ _ h => h))
           · exact opCells_one (fun e he => HSL.out e (List.mem_of_mem_drop he))
           · omega
           · omega
           · unfold insAt opCells; simp
           · have := hW7.size; (first | omega | (simp only [size_alloc]; omega) | (simp only [size_alloc, heap_drew]; omega))
           intro b8 c8 W8 hr8 hg8 hk8
           have hW8 : Mod NoB W1 W8 := hW7.trans (Mod.grown (F := fun q => W1.heap.size ≤ q) (by (repeat (first | with_reducible exact Mod.refl _ _ | with_reducible refine Mod.drew ?_ | with_reducible refine Mod.alloc ?_ _))) hg8 (fun q hq hl => (hr7.lt q hq).1)) (fun q hq h => by omega)))
      all_goals
        go_wp2_with fail
        first | (refine hK _ _ _ _ _ _ _ _ _ _ _ _ _ _ _ _ _ _ _ _ _ _ _ _ _ _ _ _ _ _ _ _ _ _ _ _ _ _ _ _ _ _ _ _ _ _ _ _ _ _ _ _ _ _ _ _ _ _ _ _ _ _ _ _ _ _ _ _ _ _ _ _ _ _ _ _ _ _ _ _ _ _ _ _ _ _ _ _ _ _ _ _ _ _ _ _ _ _ _ _ _ _ _ _ _ _ _ _ _ _ _ _ _ _ _ _ _ _ _ _ _ _ _ _ _ _ _ _ _ _ _ _ _ _ _ _ _ _ _ _ _ _ _ _ _ _ _ _ _ _ _ _ _ _ _ _ _ _ ?_) | skip
        have hr9 : OpsAt W8 W1.heap.size (.slice b8 (nm + 1) c8) (insAt Em i (s, .slice none 0 0, [])) := by
          have e1 : (insAt Em i (s, .slice none 0 0, [])).length = nm + 1 := by
            have := HNM.out
            unfold insAt
            rw [List.length_append, List.length_cons, List.length_take, List.length_drop]
            omega
          unfold OpsAt
          rw [e1]
          exact hr8
        obtain ⟨g9, c9, hv9, _⟩ := ops_some' hr9 (by unfold insAt; simp)
        have hmem : ∀ e ∈ insAt Em i (s, .slice none 0 0, []), e ∈ Em ∨ Nums W8 W1.heap.size e.2.1 e.2.2 := fun e he => by
          unfold insAt at he
          rcases app_mid he with rfl | he | he
          · exact .inr (nums_none _ _)
          · exact .inl (List.mem_of_mem_take he)
          · exact .inl (List.mem_of_mem_drop he)
        have hps := HP1.out.turned hW8 hr9 hmem
        rw [hv9] at hps ⊢
        exact ⟨g9, _, c9, rfl, k + 1, _, _, by omega, hps, pl_ins HPL.out i s _ _ _, HD1.out.quiet hW8⟩
  · have hbad : s < 0 ∨ 64 ≤ s := by omega
    have HOB := Lib.hid (SOpenG_bad t b k (total Et) (vsOf Et) s Wa HP.out.ts.tab hbad)
    rcases hbad with hb | hb
    · go_wp2_with (go_at_call 49; refine HOB.out.mono ?_; rintro e w' ⟨rfl, rfl⟩)
      first | (refine hK _ _ _ _ _ _ _ _ _ _ _ _ _ _ _ _ _ _ _ _ _ _ _ _ _ _ _ _ _ _ _ _ _ _ _ _ _ _ _ _ _ _ _ _ _ _ _ _ _ _ _ _ _ _ _ _ _ _ _ _ _ _ _ _ _ _ _ _ _ _ _ _ _ _ _ _ _ _ _ _ _ _ _ _ _ _ _ _ _ _ _ _ _ _ _ _ _ _ _ _ _ _ _ _ _ _ _ _ _ _ _ _ _ _ _ _ _ _ _ _ _ _ _ _ _ _ _ _ _ _ _ _ _ _ _ _ _ _ _ _ _ _ _ _ _ _ _ _ _ _ _ _ _ _ _ _ _ _ ?_) | skip
      exact ⟨g, nm, cm, rfl, k, Em, Et, by omega, HP.out, HPL.out, HD.out⟩
    · have hb0 : ¬ s < 64 := by omega
      have hb1 : 0 ≤ s := by omega
      go_wp2_with (go_at_call 49; refine HOB.out.mono ?_; rintro e w' ⟨rfl, rfl⟩)
      first | (refine hK _ _ _ _ _ _ _ _ _ _ _ _ _ _ _ _ _ _ _ _ _ _ _ _ _ _ _ _ _ _ _ _ _ _ _ _ _ _ _ _ _ _ _ _ _ _ _ _ _ _ _ _ _ _ _ _ _ _ _ _ _ _ _ _ _ _ _ _ _ _ _ _ _ _ _ _ _ _ _ _ _ _ _ _ _ _ _ _ _ _ _ _ _ _ _ _ _ _ _ _ _ _ _ _ _ _ _ _ _ _ _ _ _ _ _ _ _ _ _ _ _ _ _ _ _ _ _ _ _ _ _ _ _ _ _ _ _ _ _ _ _ _ _ _ _ _ _ _ _ _ _ _ _ _ _ _ _ _ ?_) | skip
      exact ⟨g, nm, cm, rfl, k, Em, Et, by omega, HP.out, HPL.out, HD.out⟩

end Go.Proofs.Ytgofngilfdnakaa
