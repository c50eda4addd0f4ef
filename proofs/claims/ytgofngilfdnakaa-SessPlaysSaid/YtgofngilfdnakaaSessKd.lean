/-
  This text proves what a step of any other kind (Begin) does in cupellaw20.SessPlays: under bounds that every argument keeps.
-/
import Derived.Test.YtgofngilfdnakaaSessV
namespace Go.Proofs.Ytgofngilfdnakaa
open Go Go.RowKit
attribute [local go_sem] over_cell over_frozen lt_over le_over noB loudUpon

set_option maxRecDepth 100000 in
set_option maxHeartbeats 12800000 in
theorem sess_kd (w Wa : World) (t b D k g nm cm i n : Nat) (is : Bool) (kind s : Int) (Em Et : Es)
    (hp : PS w Wa t b k (.slice (some ⟨g, 0, none⟩) nm cm) Em Et) (hpl : pl Em = pl Et) (hd : KA Wa t b Et D #[.int .i64 kind, .int .i64 s, .int .u32 n] 75) (hi : i = findAt Em s) (his : is = isAt Em s) (hk : k ≤ 300) (hs0 : -9223372036854775808 ≤ s) (hs1 : s ≤ 9223372036854775807) (q0 : ¬ kind = 0) (q5 : ¬ kind = 5) (q6 : ¬ kind = 6) (q7 : ¬ kind = 7)
    (u0 u1 u2 u5 u9 u10 u11 u12 u13 u14 u15 u16 u17 u18 u19 u20 u21 u22 u23 u24 u25 u26 u27 u28 u29 u30 u31 u32 u33 u34 u35 u36 u37 u38 u39 u40 u41 u42 u43 u44 u46 u47 u48 u49 u50 u51 u52 u53 u54 u55 u56 u57 u58 u59 u60 u61 u62 u63 u64 u65 u66 u67 u68 u69 u70 u71 u72 u73 u74 u75 u76 u77 u78 u79 u80 u81 u82 u83 u84 u85 u86 u87 u88 u89 u90 u91 u92 u93 u94 u95 u96 u97 u98 u99 u100 u101 u102 u103 u104 u105 u106 u107 u108 u109 u110 u111 u112 u113 u114 u115 u116 u117 u118 u119 u120 u121 u122 u123 u124 u125 u126 u127 u128 u129 u130 u131 u132 u133 u134 u135 u136 u137 u138 u139 u140 u141 u142 u143 u144 u145 u146 u147 u148 u149 u150 u151 u152 u153 u154 u155 u156 u157 u158 u159 u160 u161 u162 u163 u164 u165 u166 u167 u168 u169 u170 u171 u172 u173 u174 u175 u176 u177 u178 u179 u180 u181 u182 u183 u184 u185 u186 u187 u188 u189 u190 u191 u192 u193 u194 u195 u196 u197 u198 u199 u200 u201 : Value) (K : Act → World → Prop) (Q' : Exit → Act → World → Prop)
    (hK : ∀ (z4 z9 z10 z11 z12 z13 z14 z46 z47 z48 z49 z50 z51 z52 z53 z54 z55 z56 z57 z58 z59 z60 z61 z62 z63 z64 z65 z66 z67 z68 z69 z70 z71 z72 z73 z74 z75 z76 z77 z78 z79 z80 z81 z82 z83 z84 z85 z86 z87 z88 z89 z90 z91 z92 z93 z94 z95 z96 z97 z98 z99 z100 z101 z102 z103 z104 z105 z106 z107 z108 z109 z110 z111 z112 z113 z114 z115 z116 z117 z118 z119 z120 z121 z122 z123 z124 z125 z126 z127 z128 z129 z130 z131 z132 z133 z134 z135 z136 z137 z138 z139 z140 z141 z142 z143 z144 z145 z146 z147 z148 z149 z150 z151 z152 z153 z154 z155 z156 z157 z158 z159 z160 z161 z162 z163 z164 z165 z166 z167 z168 z169 z170 z171 z172 z173 z174 z175 z176 z177 z178 z179 z180 z181 z182 z183 z184 z185 z186 z187 z188 z189 z190 z191 z192 z193 z194 z195 : Value) (wx : World), SG w wx t b D k (.int .i64 kind) (.int .i64 s) (.int .u32 n) z4 → K ⟨#[u0, u1, u2, .pointer (some ⟨t, 0, none⟩), z4, u5, .pointer (some ⟨D, 0, none⟩), .int .i64 i, .bool is, z9, z10, z11, z12, z13, z14, u15, u16, u17, u18, u19, u20, u21, u22, u23, u24, u25, u26, u27, u28, u29, u30, u31, u32, u33, u34, u35, u36, u37, u38, u39, u40, u41, u42, u43, u44, .int .i64 kind, z46, z47, z48, z49, z50, z51, z52, z53, z54, z55, z56, z57, z58, z59, z60, z61, z62, z63, z64, z65, z66, z67, z68, z69, z70, z71, z72, z73, z74, z75, z76, z77, z78, z79, z80, z81, z82, z83, z84, z85, z86, z87, z88, z89, z90, z91, z92, z93, z94, z95, z96, z97, z98, z99, z100, z101, z102, z103, z104, z105, z106, z107, z108, z109, z110, z111, z112, z113, z114, z115, z116, z117, z118, z119, z120, z121, z122, z123, z124, z125, z126, z127, z128, z129, z130, z131, z132, z133, z134, z135, z136, z137, z138, z139, z140, z141, z142, z143, z144, z145, z146, z147, z148, z149, z150, z151, z152, z153, z154, z155, z156, z157, z158, z159, z160, z161, z162, z163, z164, z165, z166, z167, z168, z169, z170, z171, z172, z173, z174, z175, z176, z177, z178, z179, z180, z181, z182, z183, z184, z185, z186, z187, z188, z189, z190, z191, z192, z193, z194, z195, u196, u197, u198, u199, u200, u201], []⟩ wx) :
    Code.wp Try.prog blkS (Exit.then K (loudS Q')) ⟨#[u0, u1, u2, .pointer (some ⟨t, 0, none⟩), .slice (some ⟨g, 0, none⟩) nm cm, u5, .pointer (some ⟨D, 0, none⟩), .int .i64 i, .bool is, u9, u10, u11, u12, u13, u14, u15, u16, u17, u18, u19, u20, u21, u22, u23, u24, u25, u26, u27, u28, u29, u30, u31, u32, u33, u34, u35, u36, u37, u38, u39, u40, u41, u42, u43, u44, .int .i64 kind, u46, u47, u48, u49, u50, u51, u52, u53, u54, u55, u56, u57, u58, u59, u60, u61, u62, u63, u64, u65, u66, u67, u68, u69, u70, u71, u72, u73, u74, u75, u76, u77, u78, u79, u80, u81, u82, u83, u84, u85, u86, u87, u88, u89, u90, u91, u92, u93, u94, u95, u96, u97, u98, u99, u100, u101, u102, u103, u104, u105, u106, u107, u108, u109, u110, u111, u112, u113, u114, u115, u116, u117, u118, u119, u120, u121, u122, u123, u124, u125, u126, u127, u128, u129, u130, u131, u132, u133, u134, u135, u136, u137, u138, u139, u140, u141, u142, u143, u144, u145, u146, u147, u148, u149, u150, u151, u152, u153, u154, u155, u156, u157, u158, u159, u160, u161, u162, u163, u164, u165, u166, u167, u168, u169, u170, u171, u172, u173, u174, u175, u176, u177, u178, u179, u180, u181, u182, u183, u184, u185, u186, u187, u188, u189, u190, u191, u192, u193, u194, u195, u196, u197, u198, u199, u200, u201], []⟩ Wa := by
  obtain ⟨_, hg0, hnm, hnc⟩ := ops_some hp.ms.ops (by simp)
  clear hg0
  have hle := hp.ts.length
  have hlen := pl_len hpl
  have hix : i ≤ Em.length := by rw [hi]; exact List.Sublist.length_le (List.takeWhile_sublist _)
  have hsz : w.heap.size ≤ Wa.heap.size := hp.mod.size
  have hn64 : nm ≤ 64 := by omega
  have hin : i ≤ nm := by omega
  have HP := Lib.hid hp
  have HPL := Lib.hid hpl
  have HD := Lib.hid hd
  have HI := Lib.hid hi
  have HIS := Lib.hid his
  have HNM := Lib.hid hnm
  clear hp hpl hd hi his hle hlen hix hnm
  conv => arg 2; whnf
  obtain ⟨db, d0, d1, d2, df⟩ := Act3.facts HD.out.cells
  have hk9 : k ≤ 900 := by omega
  have b0 : (kind == 0) = false := by simpa using q0
  have b5 : (kind == 5) = false := by simpa using q5
  have b6 : (kind == 6) = false := by simpa using q6
  have b7 : (kind == 7) = false := by simpa using q7
  have HBG : Hid (∀ X, Mod NoB Wa X → Calls Try.prog 54 #[.slice (some ⟨g, 0, none⟩) nm cm, .agg #[.int .i64 kind, .int .i64 s, .int .u32 n]] X fun e w' => e = .returned (.int .i64 (beginOf Em s n)) ∧ Mod NoB X w') := fun X hX => by
    have hq := HP.out.quiet hX
    have htot := hq.ts.tot
    have hll := hq.ts.length
    have hlen := pl_len HPL.out
    refine begin_calls w.heap.size _ Em kind s n X hq.ms.ops hq.ms.nums (fun e he => ?_) (by omega) (by rw [total_pl HPL.out]; omega)
    obtain ⟨q, hq1, rfl⟩ := List.getElem_of_mem he
    have h4 := hq.ts.lens _ (List.getElem_mem (by omega : q < Et.length))
    rw [← (pl_at HPL.out q hq1 (by omega)).2] at h4
    omega
  have HBE : Hid (∀ X, Mod NoB Wa X → Calls Try.prog 55 #[.pointer (some ⟨t, 0, none⟩), .int .i64 s, .int .u32 n] X fun e w' => e = .returned (.int .i64 (beginOf Em s n)) ∧ ∃ E' k', k' ≤ k + 1 ∧ PS w w' t b k' (.slice (some ⟨g, 0, none⟩) nm cm) Em E' ∧ Step X w' t b Et E' ∧
      ((beginOf Em s n ≠ 0 ∧ E' = Et) ∨ (beginOf Em s n = 0 ∧ isAt Em s = true ∧ ∃ v', E' = Et.set i (s, v', listAt Em s ++ [n])))) := fun X hX => PBegin (HP.out.quiet hX) HPL.out HI.out hs0 hs1 hk9
  clear q0 q5 q6 q7
  by_cases hb : beginOf Em s n = 0
  · have hit : is = true := by
      cases is with
      | true => rfl
      | false =>
        rw [beginOf_no n HIS.out.symm] at hb
        cases hb
    subst hit
    obtain ⟨hlt, hkey, hL⟩ := is_lt HI.out HIS.out.symm
    have hltn : i < nm := by rw [HNM.out]; exact hlt
    obtain ⟨al, cl, hv, hcl⟩ : ∃ al cl, Em[i].2.1 = .slice al (listAt Em s).length cl ∧ (listAt Em s).length ≤ cl := by
      obtain ⟨al, cl, hv, hcl, _⟩ := (HP.out.ms.nums _ (List.getElem_mem hlt)).shape
      rw [hL]
      exact ⟨al, cl, hv, hcl⟩
    have hNU : Nums Wa w.heap.size (.slice al (listAt Em s).length cl) (listAt Em s) := by
      have := HP.out.ms.nums _ (List.getElem_mem hlt)
      rw [hv, ← hL] at this
      exact this
    have hcell : Wa.cell? ⟨g, i * 2 + 1, none⟩ = some (.slice al (listAt Em s).length cl) := by
      obtain ⟨a9, c9, h9, _, hc9⟩ := HP.out.ms.ops.cells
      obtain ⟨q, hq, _, _, h2⟩ := hc9 i hlt
      cases h9
      cases hq
      rw [h2, hv]
    have hgl : g < Wa.heap.size := (HP.out.ms.ops.lt g rfl).2
    have hll : (listAt Em s).length ≤ 4 := by
      have hlt2 : i < Et.length := by rw [← pl_len HPL.out]; exact hlt
      have := HP.out.ts.lens _ (List.getElem_mem hlt2)
      rw [hL, (pl_at HPL.out i hlt hlt2).2]
      exact this
    have HNU := Lib.hid hNU
    have HLT := Lib.hid hlt
    have HKEY := Lib.hid hkey
    have HV := Lib.hid hv
    have HL := Lib.hid hL
    clear hNU hkey hv hL
    have HSLI := Lib.hid HP.out.ms.slices
    rw [hb] at HBG HBE
    have HB := Lib.hid hb
    clear hb
    generalize hLL : listAt Em s = L at *
    have HLL := Lib.hid hLL
    clear hLL
    go_wp2_with fail
    refine (HBG.out _ ?_).mono ?_
    · exact Mod.refl _ _
    rintro e Wb ⟨rfl, hmb⟩
    have HBE2 := Lib.hid (HBE.out _ hmb)
    have HDB := Lib.hid (HD.out.quiet hmb)
    clear HBG HBE hmb d0 d1 d2 df db
    obtain ⟨db, d0, d1, d2, df⟩ := Act3.facts HDB.out.cells
    go_upto_region 15 with (go_at_call 55; refine HBE2.out.mono ?_; rintro e W1 ⟨rfl, E', k', hk', hp1, hst1, hcase⟩; have HP1' := Lib.hid hp1; have HD1' := Lib.hid (HDB.out.step hst1); have HCA := Lib.hid hcase; clear hp1 hst1 hcase)
    obtain ⟨v', hE'⟩ : ∃ v', E' = Et.set i (s, v', L ++ [n]) := by
      rcases HCA.out with ⟨h1, _⟩ | ⟨_, _, v', h1⟩
      · exact absurd rfl h1
      · exact ⟨v', h1⟩
    subst hE'
    have HP1 := HP1'
    have HD1 := HD1'
    clear HP1' HD1' HCA HBE2 HDB HD HP d0 d1 d2 df db
    obtain ⟨db, d0, d1, d2, df⟩ := Act3.facts HD1.out.cells
    have hcell1 : W1.cell? ⟨g, i * 2 + 1, none⟩ = some (.slice al L.length cl) := by
      obtain ⟨a9, c9, h9, _, hc9⟩ := HP1.out.ms.ops.cells
      obtain ⟨q, hq, _, _, h2⟩ := hc9 i HLT.out
      cases h9
      cases hq
      rw [h2, HV.out]
    have hgl1 : g < W1.heap.size := (HP1.out.ms.ops.lt g rfl).2
    have hNU1 : Nums W1 w.heap.size (.slice al L.length cl) L := by
      have := HP1.out.ms.nums _ (List.getElem_mem HLT.out)
      rw [HV.out, ← HL.out] at this
      exact this
    have HNU1 := Lib.hid hNU1
    clear hcell hgl HNU hNU1
    have hsz1 := HP1.out.mod.size
    have HWI : Hid (∀ X vv, Mod NoB W1 X → Nums X W1.heap.size vv (L ++ [n]) → Calls Try.prog 52 #[.slice (some ⟨g, 0, none⟩) nm cm, .int .i64 i, vv] X fun e w' => ∃ u, e = .returned u ∧ Mod NoB X w' ∧ OpsAt w' X.heap.size u (Em.set i (s, vv, L ++ [n]))) := fun X vv hX hvv => by
      obtain ⟨a7, c7, rfl, _⟩ := hvv.shape
      have := with_calls w.heap.size (.slice (some ⟨g, 0, none⟩) nm cm) Em i a7 (L ++ [n]).length c7 (L ++ [n]) X (HP1.out.quiet hX).ms.ops HSLI.out HLT.out (by have := HNM.out; omega)
      rw [HKEY.out] at this
      exact this
    have HL1 : Hid ((L ++ [n]).length = L.length + 1) := by rw [List.length_append]; rfl
    go_region_law (first
      | (refine step_own rfl (.tmp 61) (.tmp 66) 79 rfl (v := .slice (some ⟨_, 0, none⟩) 0 0) (v2 := .slice al L.length cl) rfl rfl (base := W1.heap.size) (n := 0) (m := L.length) (xs := []) (ys := L.map fun n : Nat => Value.int .u32 (n : Int)) L.length (L.map fun n : Nat => Value.int .u32 (n : Int)) elemU (by decide) ?_ ?_ ?_ ?_ ?_ rfl ?_ ?_
         · exact row_empty (by first | exact heap_alloc_at' _ _ _ rfl | exact heap_alloc_at' _ _ _ (by simp) | exact heap_alloc_old' _ _ _ (by (first | omega | (simp only [size_alloc]; omega) | (simp only [size_alloc, heap_drew]; omega))) (heap_alloc_at' _ _ _ (by first | rfl | simp))) (by (first | omega | (simp only [size_alloc]; omega) | (simp only [size_alloc, heap_drew]; omega)))
         · exact nums_part (ownsRow_mod HNU1.out (by (repeat (first | with_reducible exact Mod.refl _ _ | with_reducible refine Mod.drew ?_ | with_reducible refine Mod.alloc ?_ _))) (fun _ _ => id))
         · exact nums_one _
         · omega
         · omega
         · (first | omega | (simp only [size_alloc]; omega) | (simp only [size_alloc, heap_drew]; omega))
         intro b6 c6 W6 hr6 hg6 hk6
         have hW6 : Mod NoB W1 W6 := Mod.grown (by (repeat (first | with_reducible exact Mod.refl _ _ | with_reducible refine Mod.drew ?_ | with_reducible refine Mod.alloc ?_ _))) hg6 (fun q hq hl => by (try simp only [Value.ownBlock, Option.some.injEq] at hq); omega)
         have hd6 := (hW6.block D db id).trans HD1.out.cells
         have t2 := (cell_heap hd6 2 : W6.cell? ⟨D, 2, none⟩ = some (.int .u32 n))
         have tb := lt_heap hd6
         have hn6 : b6 ≠ none := fun e => by subst e; rcases hk6 with e | e <;> cases e)
      | (refine step_own rfl (.tmp 67) (.tmp 70) 79 rfl (v := .slice b6 L.length c6) (v2 := .slice (some ⟨_, 0, none⟩) 1 1) rfl rfl (base := W1.heap.size) (n := L.length) (m := 1) (xs := L.map fun n : Nat => Value.int .u32 (n : Int)) (ys := [.int .u32 n]) (L.length + 1) ((L ++ [n]).map fun n : Nat => Value.int .u32 (n : Int)) elemU (by decide) ?_ ?_ ?_ ?_ ?_ ?_ ?_ ?_
         · exact ownsRow_mod hr6 (by (repeat (first | with_reducible exact Mod.refl _ _ | with_reducible refine Mod.drew ?_ | with_reducible refine Mod.alloc ?_ _))) (fun _ _ => id)
         · first | exact part_block (heap_alloc_at' _ _ _ (by first | rfl | simp)) rfl | exact part_block (grown_at hg6 (by first | exact heap_alloc_at' _ _ _ rfl | exact heap_alloc_at' _ _ _ (by simp) | exact heap_alloc_old' _ _ _ (by (first | omega | (simp only [size_alloc]; omega) | (simp only [size_alloc, heap_drew]; omega))) (heap_alloc_at' _ _ _ (by first | rfl | simp))) (by simp only [Value.ownBlock, ne_eq, Option.some.injEq]; omega)) rfl
         · intro u hu; rw [List.mem_singleton.1 hu]; rfl
         · omega
         · omega
         · rw [List.map_append]; rfl
         · have := hW6.size; (first | omega | (simp only [size_alloc]; omega) | (simp only [size_alloc, heap_drew]; omega))
         intro b7 c7 W7 hr7 hg7 hk7
         have hW7 : Mod NoB W1 W7 := hW6.trans (Mod.grown (F := fun q => W1.heap.size ≤ q) (by (repeat (first | with_reducible exact Mod.refl _ _ | with_reducible refine Mod.drew ?_ | with_reducible refine Mod.alloc ?_ _))) hg7 (fun q hq hl => (hr6.lt q hq).1)) (fun q hq h => by omega)
         have hr7' : Nums W7 W1.heap.size (.slice b7 (L.length + 1) c7) (L ++ [n]) := by
           unfold Nums
           rw [HL1.out]
           exact hr7)
      | (refine step_fn rfl 52 (fun _ _ => by kernel_rfl) #[.tmp 59, .tmp 60, .tmp 71] #[72, 3, 79] rfl (vs := #[.slice (some ⟨g, 0, none⟩) nm cm, .int .i64 i, .slice b7 (L.length + 1) c7]) rfl (HWI.out W7 _ hW7 hr7') ?_
         rintro u W8 ⟨hm8, ho8⟩))
    all_goals
      go_wp2_with fail
      first | (refine hK _ _ _ _ _ _ _ _ _ _ _ _ _ _ _ _ _ _ _ _ _ _ _ _ _ _ _ _ _ _ _ _ _ _ _ _ _ _ _ _ _ _ _ _ _ _ _ _ _ _ _ _ _ _ _ _ _ _ _ _ _ _ _ _ _ _ _ _ _ _ _ _ _ _ _ _ _ _ _ _ _ _ _ _ _ _ _ _ _ _ _ _ _ _ _ _ _ _ _ _ _ _ _ _ _ _ _ _ _ _ _ _ _ _ _ _ _ _ _ _ _ _ _ _ _ _ _ _ _ _ _ _ _ _ _ _ _ _ _ _ _ _ _ _ _ _ _ _ _ _ _ _ _ _ _ _ _ _ ?_) | skip
      obtain ⟨g9, c9, hv9, _⟩ := ops_some' ho8 (by intro e; have := congrArg List.length e; rw [List.length_set, List.length_nil] at this; have := HLT.out; omega)
      have hmem : ∀ e ∈ Em.set i (s, .slice b7 (L.length + 1) c7, L ++ [n]), e ∈ Em ∨ Nums W8 W1.heap.size e.2.1 e.2.2 := fun e he => by
        rcases List.mem_or_eq_of_mem_set he with he | rfl
        · exact .inl he
        · exact .inr (ownsRow_mod hr7' hm8 (fun _ _ => id))
      have hW8 := hW7.trans hm8 (fun _ _ h => h)
      have hps := HP1.out.turned hW8 (row_base ho8 hW7.size) hmem
      rw [hv9] at hps ⊢
      exact ⟨g9, _, c9, rfl, k', _, _, hk', hps, pl_set HPL.out i s _ _ _, HD1.out.quiet hW8⟩
  · have hbn : (beginOf Em s n == 0) = false := by simpa using hb
    have HB := Lib.hid hb
    clear hb
    generalize beginOf Em s n = B at *
    go_wp2_with fail
    refine (HBG.out _ ?_).mono ?_
    · exact Mod.refl _ _
    rintro e Wb ⟨rfl, hmb⟩
    have HBE2 := Lib.hid (HBE.out _ hmb)
    have HDB := Lib.hid (HD.out.quiet hmb)
    clear HBG HBE hmb d0 d1 d2 df db
    obtain ⟨db, d0, d1, d2, df⟩ := Act3.facts HDB.out.cells
    go_wp2_with (go_at_call 55; refine HBE2.out.mono ?_; rintro e W1 ⟨rfl, E', k', hk', hp1, hst1, hcase⟩; have HP1 := Lib.hid hp1; have HD1 := Lib.hid (HDB.out.step hst1); have HCA := Lib.hid hcase; clear hp1 hst1 hcase)
    first | (refine hK _ _ _ _ _ _ _ _ _ _ _ _ _ _ _ _ _ _ _ _ _ _ _ _ _ _ _ _ _ _ _ _ _ _ _ _ _ _ _ _ _ _ _ _ _ _ _ _ _ _ _ _ _ _ _ _ _ _ _ _ _ _ _ _ _ _ _ _ _ _ _ _ _ _ _ _ _ _ _ _ _ _ _ _ _ _ _ _ _ _ _ _ _ _ _ _ _ _ _ _ _ _ _ _ _ _ _ _ _ _ _ _ _ _ _ _ _ _ _ _ _ _ _ _ _ _ _ _ _ _ _ _ _ _ _ _ _ _ _ _ _ _ _ _ _ _ _ _ _ _ _ _ _ _ _ _ _ _ ?_) | skip
    rcases HCA.out with ⟨_, rfl⟩ | ⟨h2, _⟩
    · exact ⟨g, nm, cm, rfl, k', Em, _, hk', HP1.out, HPL.out, HD1.out⟩
    · exact absurd h2 HB.out

end Go.Proofs.Ytgofngilfdnakaa
