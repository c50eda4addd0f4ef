/-
  This text proves what a step of kind 5 (End) does in cupellaw20.SessPlays: under bounds that every argument keeps.
-/
import Derived.Test.YtgofngilfdnakaaSessV
namespace Go.Proofs.Ytgofngilfdnakaa
open Go Go.RowKit
attribute [local go_sem] over_cell over_frozen lt_over le_over noB loudUpon

set_option maxRecDepth 100000 in
set_option maxHeartbeats 12800000 in
theorem sess_k5 (w Wa : World) (t b D k g nm cm i n : Nat) (is : Bool) (s : Int) (Em Et : Es)
    (hp : PS w Wa t b k (.slice (some ⟨g, 0, none⟩) nm cm) Em Et) (hpl : pl Em = pl Et) (hd : KA Wa t b Et D #[.int .i64 5, .int .i64 s, .int .u32 n] 75) (hi : i = findAt Em s) (his : is = isAt Em s) (hk : k ≤ 300) (hs0 : -9223372036854775808 ≤ s) (hs1 : s ≤ 9223372036854775807)
    (u0 u1 u2 u5 u9 u10 u11 u12 u13 u14 u15 u16 u17 u18 u19 u20 u21 u22 u23 u24 u25 u26 u27 u28 u29 u30 u31 u32 u33 u34 u35 u36 u37 u38 u39 u40 u41 u42 u43 u44 u46 u47 u48 u49 u50 u51 u52 u53 u54 u55 u56 u57 u58 u59 u60 u61 u62 u63 u64 u65 u66 u67 u68 u69 u70 u71 u72 u73 u74 u75 u76 u77 u78 u79 u80 u81 u82 u83 u84 u85 u86 u87 u88 u89 u90 u91 u92 u93 u94 u95 u96 u97 u98 u99 u100 u101 u102 u103 u104 u105 u106 u107 u108 u109 u110 u111 u112 u113 u114 u115 u116 u117 u118 u119 u120 u121 u122 u123 u124 u125 u126 u127 u128 u129 u130 u131 u132 u133 u134 u135 u136 u137 u138 u139 u140 u141 u142 u143 u144 u145 u146 u147 u148 u149 u150 u151 u152 u153 u154 u155 u156 u157 u158 u159 u160 u161 u162 u163 u164 u165 u166 u167 u168 u169 u170 u171 u172 u173 u174 u175 u176 u177 u178 u179 u180 u181 u182 u183 u184 u185 u186 u187 u188 u189 u190 u191 u192 u193 u194 u195 u196 u197 u198 u199 u200 u201 : Value) (K : Act → World → Prop) (Q' : Exit → Act → World → Prop)
    (hK : ∀ (z4 z9 z10 z11 z12 z13 z14 z46 z47 z48 z49 z50 z51 z52 z53 z54 z55 z56 z57 z58 z59 z60 z61 z62 z63 z64 z65 z66 z67 z68 z69 z70 z71 z72 z73 z74 z75 z76 z77 z78 z79 z80 z81 z82 z83 z84 z85 z86 z87 z88 z89 z90 z91 z92 z93 z94 z95 z96 z97 z98 z99 z100 z101 z102 z103 z104 z105 z106 z107 z108 z109 z110 z111 z112 z113 z114 z115 z116 z117 z118 z119 z120 z121 z122 z123 z124 z125 z126 z127 z128 z129 z130 z131 z132 z133 z134 z135 z136 z137 z138 z139 z140 z141 z142 z143 z144 z145 z146 z147 z148 z149 z150 z151 z152 z153 z154 z155 z156 z157 z158 z159 z160 z161 z162 z163 z164 z165 z166 z167 z168 z169 z170 z171 z172 z173 z174 z175 z176 z177 z178 z179 z180 z181 z182 z183 z184 z185 z186 z187 z188 z189 z190 z191 z192 z193 z194 z195 : Value) (wx : World), SG w wx t b D k (.int .i64 5) (.int .i64 s) (.int .u32 n) z4 → K ⟨#[u0, u1, u2, .pointer (some ⟨t, 0, none⟩), z4, u5, .pointer (some ⟨D, 0, none⟩), .int .i64 i, .bool is, z9, z10, z11, z12, z13, z14, u15, u16, u17, u18, u19, u20, u21, u22, u23, u24, u25, u26, u27, u28, u29, u30, u31, u32, u33, u34, u35, u36, u37, u38, u39, u40, u41, u42, u43, u44, .int .i64 5, z46, z47, z48, z49, z50, z51, z52, z53, z54, z55, z56, z57, z58, z59, z60, z61, z62, z63, z64, z65, z66, z67, z68, z69, z70, z71, z72, z73, z74, z75, z76, z77, z78, z79, z80, z81, z82, z83, z84, z85, z86, z87, z88, z89, z90, z91, z92, z93, z94, z95, z96, z97, z98, z99, z100, z101, z102, z103, z104, z105, z106, z107, z108, z109, z110, z111, z112, z113, z114, z115, z116, z117, z118, z119, z120, z121, z122, z123, z124, z125, z126, z127, z128, z129, z130, z131, z132, z133, z134, z135, z136, z137, z138, z139, z140, z141, z142, z143, z144, z145, z146, z147, z148, z149, z150, z151, z152, z153, z154, z155, z156, z157, z158, z159, z160, z161, z162, z163, z164, z165, z166, z167, z168, z169, z170, z171, z172, z173, z174, z175, z176, z177, z178, z179, z180, z181, z182, z183, z184, z185, z186, z187, z188, z189, z190, z191, z192, z193, z194, z195, u196, u197, u198, u199, u200, u201], []⟩ wx) :
    Code.wp Try.prog blkS (Exit.then K (loudS Q')) ⟨#[u0, u1, u2, .pointer (some ⟨t, 0, none⟩), .slice (some ⟨g, 0, none⟩) nm cm, u5, .pointer (some ⟨D, 0, none⟩), .int .i64 i, .bool is, u9, u10, u11, u12, u13, u14, u15, u16, u17, u18, u19, u20, u21, u22, u23, u24, u25, u26, u27, u28, u29, u30, u31, u32, u33, u34, u35, u36, u37, u38, u39, u40, u41, u42, u43, u44, .int .i64 5, u46, u47, u48, u49, u50, u51, u52, u53, u54, u55, u56, u57, u58, u59, u60, u61, u62, u63, u64, u65, u66, u67, u68, u69, u70, u71, u72, u73, u74, u75, u76, u77, u78, u79, u80, u81, u82, u83, u84, u85, u86, u87, u88, u89, u90, u91, u92, u93, u94, u95, u96, u97, u98, u99, u100, u101, u102, u103, u104, u105, u106, u107, u108, u109, u110, u111, u112, u113, u114, u115, u116, u117, u118, u119, u120, u121, u122, u123, u124, u125, u126, u127, u128, u129, u130, u131, u132, u133, u134, u135, u136, u137, u138, u139, u140, u141, u142, u143, u144, u145, u146, u147, u148, u149, u150, u151, u152, u153, u154, u155, u156, u157, u158, u159, u160, u161, u162, u163, u164, u165, u166, u167, u168, u169, u170, u171, u172, u173, u174, u175, u176, u177, u178, u179, u180, u181, u182, u183, u184, u185, u186, u187, u188, u189, u190, u191, u192, u193, u194, u195, u196, u197, u198, u199, u200, u201], []⟩ Wa := by
  obtain ⟨_, hg0, hnm, hnc⟩ := ops_some hp.ms.ops (by simp)
  clear hg0
  have hle := hp.ts.length
  have hlen := pl_len hpl
  have hix : i ≤ Em.length := by rw [hi]; exact List.Sublist.length_le (List.takeWhile_sublist _)
  have hsz : w.heap.size ≤ Wa.heap.size := hp.mod.size
  have hn64 : nm ≤ 64 := by omega
  have hin : i ≤ nm := by omega
  have HP := Lib.hid hp
  have HPL := Lib.hid hpl
  have HD := Lib.hid hd
  have HI := Lib.hid hi
  have HIS := Lib.hid his
  have HNM := Lib.hid hnm
  clear hp hpl hd hi his hle hlen hix hnm
  conv => arg 2; whnf
  obtain ⟨db, d0, d1, d2, df⟩ := Act3.facts HD.out.cells
  have hk9 : k ≤ 900 := by omega
  have n5 : (5 == 0) = false := by decide
  cases is with
  | false =>
    have HEN := Lib.hid (PEnd_no (n := n) HP.out HPL.out hs0 hs1 hk9 (fun e => by rw [← HIS.out] at e; cases e))
    go_wp2_with (go_at_call 51; refine HEN.out.mono ?_; rintro e W1 ⟨rfl, k', hk', hp1, hst1⟩; have HP1 := Lib.hid hp1; have HD1 := Lib.hid (HD.out.step hst1); clear hp1 hst1)
    first | (refine hK _ _ _ _ _ _ _ _ _ _ _ _ _ _ _ _ _ _ _ _ _ _ _ _ _ _ _ _ _ _ _ _ _ _ _ _ _ _ _ _ _ _ _ _ _ _ _ _ _ _ _ _ _ _ _ _ _ _ _ _ _ _ _ _ _ _ _ _ _ _ _ _ _ _ _ _ _ _ _ _ _ _ _ _ _ _ _ _ _ _ _ _ _ _ _ _ _ _ _ _ _ _ _ _ _ _ _ _ _ _ _ _ _ _ _ _ _ _ _ _ _ _ _ _ _ _ _ _ _ _ _ _ _ _ _ _ _ _ _ _ _ _ _ _ _ _ _ _ _ _ _ _ _ _ _ _ _ _ ?_) | skip
    exact ⟨g, nm, cm, rfl, k', Em, Et, hk', HP1.out, HPL.out, HD1.out⟩
  | true =>
    obtain ⟨hlt, hkey, hL⟩ := is_lt HI.out HIS.out.symm
    have hltn : i < nm := by rw [HNM.out]; exact hlt
    obtain ⟨al, cl, hv, hcl⟩ : ∃ al cl, Em[i].2.1 = .slice al (listAt Em s).length cl ∧ (listAt Em s).length ≤ cl := by
      obtain ⟨al, cl, hv, hcl, _⟩ := (HP.out.ms.nums _ (List.getElem_mem hlt)).shape
      rw [hL]
      exact ⟨al, cl, hv, hcl⟩
    have hNU : Nums Wa w.heap.size (.slice al (listAt Em s).length cl) (listAt Em s) := by
      have := HP.out.ms.nums _ (List.getElem_mem hlt)
      rw [hv, ← hL] at this
      exact this
    have hcell : Wa.cell? ⟨g, i * 2 + 1, none⟩ = some (.slice al (listAt Em s).length cl) := by
      obtain ⟨a9, c9, h9, _, hc9⟩ := HP.out.ms.ops.cells
      obtain ⟨q, hq, _, _, h2⟩ := hc9 i hlt
      cases h9
      cases hq
      rw [h2, hv]
    have hgl : g < Wa.heap.size := (HP.out.ms.ops.lt g rfl).2
    have hll : (listAt Em s).length ≤ 4 := by
      have hlt2 : i < Et.length := by rw [← pl_len HPL.out]; exact hlt
      have := HP.out.ts.lens _ (List.getElem_mem hlt2)
      rw [hL, (pl_at HPL.out i hlt hlt2).2]
      exact this
    have HNU := Lib.hid hNU
    have HLT := Lib.hid hlt
    have HKEY := Lib.hid hkey
    have HV := Lib.hid hv
    have HL := Lib.hid hL
    clear hNU hkey hv hL
    have HSLI := Lib.hid HP.out.ms.slices
    generalize hLL : listAt Em s = L at *
    have HLL := Lib.hid hLL
    clear hLL
    by_cases hmem : n ∈ L
    · obtain ⟨j, hj1, hj2⟩ := first_of hmem
      have hjl := (List.getElem?_eq_some_iff.1 hj1).1
      have HEN : Hid (∀ X, Mod NoB Wa X → Calls Try.prog 51 #[.pointer (some ⟨t, 0, none⟩), .int .i64 s, .int .u32 n] X fun e w' => e = .returned (.bool true) ∧ ∃ v' k', k' ≤ k + 1 ∧ PS w w' t b k' (.slice (some ⟨g, 0, none⟩) nm cm) Em (Et.set i (s, v', L.eraseIdx j)) ∧ Step X w' t b Et (Et.set i (s, v', L.eraseIdx j))) := fun X hX => by
        have := PEnd_yes (HP.out.quiet hX) HPL.out HI.out hs0 hs1 hk9 HIS.out.symm (by rw [HLL.out]; exact hj1) (by rw [HLL.out]; exact hj2)
        rw [HLL.out] at this
        exact this
      have HPC := Lib.hid (fun X (hX : Mod NoB Wa X) => (place_some w.heap.size (.slice al L.length cl) L n j X (ownsRow_mod HNU.out hX (fun _ _ => id)) hj1 hj2 (by omega)).mono (fun e w' hh => (⟨hh.1, hh.2 ▸ Mod.refl NoB X⟩ : e = .returned (.int .i64 j) ∧ Mod NoB X w')))
      have HJ := Lib.hid hj1
      clear hj1 hj2 hmem
      go_upto_region 26 with fail
      refine wp_region_quiet_all (fun w' => ∃ x, w' = over _ (NoB) x) (by kernel_rfl) (by kernel_rfl) (Cls.drew _ _) ?_
      repeat (go_big_quiet_step ((go_at_call 50; exact Calls.cls (fun _ _ h => h) (HPC.out _ (over_mod _ _ _)))))
      refine wpQuiet_nil ?_
      rintro _ ⟨y, rfl⟩
      have hmy := over_mod Wa NoB y
      have HEY := Lib.hid (HEN.out _ hmy)
      have HDY := Lib.hid (HD.out.quiet hmy)
      clear HEN HPC hmy
      go_upto_region 30 with (go_at_call 51; refine HEY.out.mono ?_; rintro e W1 ⟨rfl, v', k', hk', hp1, hst1⟩; have HP1 := Lib.hid hp1; have HD1 := Lib.hid (HDY.out.step hst1); clear hp1 hst1)
      clear HEY HDY HD HP d0 d1 d2 df db
      obtain ⟨db, d0, d1, d2, df⟩ := Act3.facts HD1.out.cells
      have hcell1 : W1.cell? ⟨g, i * 2 + 1, none⟩ = some (.slice al L.length cl) := by
        obtain ⟨a9, c9, h9, _, hc9⟩ := HP1.out.ms.ops.cells
        obtain ⟨q, hq, _, _, h2⟩ := hc9 i HLT.out
        cases h9
        cases hq
        rw [h2, HV.out]
      have hgl1 : g < W1.heap.size := (HP1.out.ms.ops.lt g rfl).2
      have hNU1 : Nums W1 w.heap.size (.slice al L.length cl) L := by
        have := HP1.out.ms.nums _ (List.getElem_mem HLT.out)
        rw [HV.out, ← HL.out] at this
        exact this
      have HNU1 := Lib.hid hNU1
      clear hcell hgl HNU hNU1
      obtain ⟨gl, rfl⟩ : ∃ gl, al = some ⟨gl, 0, none⟩ := by
        rcases HNU1.out.2 with ⟨h0, h00⟩ | ⟨gl, _, _, h0, _⟩
        · omega
        · cases h0; exact ⟨gl, rfl⟩
      have hjn : (j : Int) ≤ (L.length : Int) := by omega
      have hj0 : (0 : Int) ≤ (j : Int) := by omega
      have hj9 : IntKind.i64.wrap ((j : Int) + 1) = (j : Int) + 1 := by rw [IntKind.wrap_i64]; omega
      have hj8 : ((j : Int) + 1).toNat = j + 1 := by omega
      have hjc : j ≤ cl := by omega
      have hjc1 : j + 1 ≤ cl := by omega
      have hjl1 : j + 1 ≤ L.length := by omega
      have hj7 : (j : Int) + 1 ≤ (L.length : Int) := by omega
      have hj6 : (0 : Int) ≤ (j : Int) + 1 := by omega
      have hsz1 := HP1.out.mod.size
      have HPT : Hid (∀ X, Mod NoB W1 X → PartAt X 1 (.slice (some ⟨gl, 0, none⟩) j cl) j ((L.take j).map fun n : Nat => Value.int .u32 (n : Int))) := fun X hX => nums_part_take (ownsRow_mod HNU1.out hX (fun _ _ => id)) (by omega) (by omega)
      have HPD : Hid (∀ X, Mod NoB W1 X → PartAt X 1 (.slice (if cl = j + 1 then some ⟨gl, 0, none⟩ else some ⟨gl, j + 1, none⟩) (L.length - (j + 1)) (cl - (j + 1))) (L.length - (j + 1)) ((L.drop (j + 1)).map fun n : Nat => Value.int .u32 (n : Int))) := fun X hX => by
        by_cases hci : cl = j + 1
        · rw [if_pos hci]
          exact nums_part_drop (ownsRow_mod HNU1.out hX (fun _ _ => id)) (by omega) (by omega) _ (fun h => by omega)
        · rw [if_neg hci]
          exact nums_part_drop (ownsRow_mod HNU1.out hX (fun _ _ => id)) (by omega) (by omega) _ (fun _ => rfl)
      have HWI : Hid (∀ X vv, Mod NoB W1 X → Nums X W1.heap.size vv (L.eraseIdx j) → Calls Try.prog 52 #[.slice (some ⟨g, 0, none⟩) nm cm, .int .i64 i, vv] X fun e w' => ∃ u, e = .returned u ∧ Mod NoB X w' ∧ OpsAt w' X.heap.size u (Em.set i (s, vv, L.eraseIdx j))) := fun X vv hX hvv => by
        obtain ⟨a7, c7, rfl, _⟩ := hvv.shape
        have := with_calls w.heap.size (.slice (some ⟨g, 0, none⟩) nm cm) Em i a7 (L.eraseIdx j).length c7 (L.eraseIdx j) X (HP1.out.quiet hX).ms.ops HSLI.out HLT.out (by have := HNM.out; omega)
        rw [HKEY.out] at this
        exact this
      go_region_law (first
        | (refine step_own rfl (.tmp 134) (.tmp 141) 79 rfl (v := .slice (some ⟨_, 0, none⟩) 0 0) (v2 := .slice (some ⟨gl, 0, none⟩) j cl) rfl rfl (base := W1.heap.size) (n := 0) (m := j) (xs := []) (ys := (L.take j).map fun n : Nat => Value.int .u32 (n : Int)) j ((L.take j).map fun n : Nat => Value.int .u32 (n : Int)) elemU (by decide) ?_ ?_ ?_ ?_ ?_ rfl ?_ ?_
           · exact row_empty (by first | exact heap_alloc_at' _ _ _ rfl | exact heap_alloc_at' _ _ _ (by simp) | exact heap_alloc_old' _ _ _ (by (first | omega | (simp only [size_alloc]; omega) | (simp only [size_alloc, heap_drew]; omega))) (heap_alloc_at' _ _ _ (by first | rfl | simp))) (by (first | omega | (simp only [size_alloc]; omega) | (simp only [size_alloc, heap_drew]; omega)))
           · exact HPT.out _ (by (repeat (first | with_reducible exact Mod.refl _ _ | with_reducible refine Mod.drew ?_ | with_reducible refine Mod.alloc ?_ _)))
           · exact nums_one _
           · omega
           · omega
           · (first | omega | (simp only [size_alloc]; omega) | (simp only [size_alloc, heap_drew]; omega))
           intro b6 c6 W6 hr6 hg6 hk6
           have hW6 : Mod NoB W1 W6 := Mod.grown (by (repeat (first | with_reducible exact Mod.refl _ _ | with_reducible refine Mod.drew ?_ | with_reducible refine Mod.alloc ?_ _))) hg6 (fun q hq hl => by (try simp only [Value.ownBlock, Option.some.injEq] at hq); omega)
           have hc6 := (World.cell?_of_block (w := W1) (hW6.block g hgl1 id) : W6.cell? ⟨g, i * 2 + 1, none⟩ = _).trans hcell1
           have hgl6 := Nat.lt_of_lt_of_le hgl1 hW6.size
           have hn6 : b6 ≠ none := fun e => by subst e; rcases hk6 with e | e <;> cases e)
        | (refine step_own rfl (.tmp 142) (.tmp 150) 79 rfl (v := .slice b6 j c6) (v2 := .slice (if cl = j + 1 then some ⟨gl, 0, none⟩ else some ⟨gl, j + 1, none⟩) (L.length - (j + 1)) (cl - (j + 1))) rfl rfl (base := W1.heap.size) (n := j) (m := L.length - (j + 1)) (xs := (L.take j).map fun n : Nat => Value.int .u32 (n : Int)) (ys := (L.drop (j + 1)).map fun n : Nat => Value.int .u32 (n : Int)) (L.eraseIdx j).length ((L.eraseIdx j).map fun n : Nat => Value.int .u32 (n : Int)) elemU (by decide) ?_ ?_ ?_ ?_ ?_ ?_ ?_ ?_
           · exact ownsRow_mod hr6 (by (repeat (first | with_reducible exact Mod.refl _ _ | with_reducible refine Mod.drew ?_ | with_reducible refine Mod.alloc ?_ _))) (fun _ _ => id)
           · exact HPD.out _ (hW6.trans (by (repeat (first | with_reducible exact Mod.refl _ _ | with_reducible refine Mod.drew ?_ | with_reducible refine Mod.alloc ?_ _))) (fun _ _ h => h))
           · exact nums_one _
           · rw [List.length_eraseIdx, if_pos hjl]; omega
           · rw [List.length_eraseIdx, if_pos hjl]; omega
           · rw [← List.map_append, ← List.eraseIdx_eq_take_drop_succ]
           · have := hW6.size; (first | omega | (simp only [size_alloc]; omega) | (simp only [size_alloc, heap_drew]; omega))
           intro b7 c7 W7 hr7 hg7 hk7
           have hW7 : Mod NoB W1 W7 := hW6.trans (Mod.grown (F := fun q => W1.heap.size ≤ q) (by (repeat (first | with_reducible exact Mod.refl _ _ | with_reducible refine Mod.drew ?_ | with_reducible refine Mod.alloc ?_ _))) hg7 (fun q hq hl => (hr6.lt q hq).1)) (fun q hq h => by omega))
        | (refine step_fn rfl 52 (fun _ _ => by kernel_rfl) #[.tmp 132, .tmp 133, .tmp 151] #[72, 3, 79] rfl (vs := #[.slice (some ⟨g, 0, none⟩) nm cm, .int .i64 i, .slice b7 (L.eraseIdx j).length c7]) rfl (HWI.out W7 _ hW7 hr7) ?_
           rintro u W8 ⟨hm8, ho8⟩))
      all_goals
        go_wp2_with fail
        first | (refine hK _ _ _ _ _ _ _ _ _ _ _ _ _ _ _ _ _ _ _ _ _ _ _ _ _ _ _ _ _ _ _ _ _ _ _ _ _ _ _ _ _ _ _ _ _ _ _ _ _ _ _ _ _ _ _ _ _ _ _ _ _ _ _ _ _ _ _ _ _ _ _ _ _ _ _ _ _ _ _ _ _ _ _ _ _ _ _ _ _ _ _ _ _ _ _ _ _ _ _ _ _ _ _ _ _ _ _ _ _ _ _ _ _ _ _ _ _ _ _ _ _ _ _ _ _ _ _ _ _ _ _ _ _ _ _ _ _ _ _ _ _ _ _ _ _ _ _ _ _ _ _ _ _ _ _ _ _ _ ?_) | skip
        obtain ⟨g9, c9, hv9, _⟩ := ops_some' ho8 (by intro e; have := congrArg List.length e; rw [List.length_set, List.length_nil] at this; have := HLT.out; omega)
        have hmem : ∀ e ∈ Em.set i (s, .slice b7 (L.eraseIdx j).length c7, L.eraseIdx j), e ∈ Em ∨ Nums W8 W1.heap.size e.2.1 e.2.2 := fun e he => by
          rcases List.mem_or_eq_of_mem_set he with he | rfl
          · exact .inl he
          · exact .inr (ownsRow_mod hr7 hm8 (fun _ _ => id))
        have hW8 := hW7.trans hm8 (fun _ _ h => h)
        have hps := HP1.out.turned hW8 (row_base ho8 hW7.size) hmem
        rw [hv9] at hps ⊢
        exact ⟨g9, _, c9, rfl, k', _, _, hk', hps, pl_set HPL.out i s _ _ _, HD1.out.quiet hW8⟩
    · have HEN : Hid (∀ X, Mod NoB Wa X → Calls Try.prog 51 #[.pointer (some ⟨t, 0, none⟩), .int .i64 s, .int .u32 n] X fun e w' => e = .returned (.bool false) ∧ ∃ k', k' ≤ k + 1 ∧ PS w w' t b k' (.slice (some ⟨g, 0, none⟩) nm cm) Em Et ∧ Step X w' t b Et Et) := fun X hX =>
        PEnd_no (HP.out.quiet hX) HPL.out hs0 hs1 hk9 (fun _ => by rw [HLL.out]; exact hmem)
      have HPC := Lib.hid (fun X (hX : Mod NoB Wa X) => (place_none w.heap.size (.slice al L.length cl) L n X (ownsRow_mod HNU.out hX (fun _ _ => id)) hmem (by omega)).mono (fun e w' hh => (⟨hh.1, hh.2 ▸ Mod.refl NoB X⟩ : e = .returned (.int .i64 (-1)) ∧ Mod NoB X w')))
      clear hmem
      go_upto_region 26 with fail
      refine wp_region_quiet_all (fun w' => ∃ x, w' = over _ (NoB) x) (by kernel_rfl) (by kernel_rfl) (Cls.drew _ _) ?_
      repeat (go_big_quiet_step ((go_at_call 50; exact Calls.cls (fun _ _ h => h) (HPC.out _ (over_mod _ _ _)))))
      refine wpQuiet_nil ?_
      rintro _ ⟨y, rfl⟩
      have hmy := over_mod Wa NoB y
      have HEY := Lib.hid (HEN.out _ hmy)
      have HDY := Lib.hid (HD.out.quiet hmy)
      clear HEN HPC hmy
      go_wp2_with (go_at_call 51; refine HEY.out.mono ?_; rintro e W1 ⟨rfl, k', hk', hp1, hst1⟩; have HP1 := Lib.hid hp1; have HD1 := Lib.hid (HDY.out.step hst1); clear hp1 hst1)
      first | (refine hK _ _ _ _ _ _ _ _ _ _ _ _ _ _ _ _ _ _ _ _ _ _ _ _ _ _ _ _ _ _ _ _ _ _ _ _ _ _ _ _ _ _ _ _ _ _ _ _ _ _ _ _ _ _ _ _ _ _ _ _ _ _ _ _ _ _ _ _ _ _ _ _ _ _ _ _ _ _ _ _ _ _ _ _ _ _ _ _ _ _ _ _ _ _ _ _ _ _ _ _ _ _ _ _ _ _ _ _ _ _ _ _ _ _ _ _ _ _ _ _ _ _ _ _ _ _ _ _ _ _ _ _ _ _ _ _ _ _ _ _ _ _ _ _ _ _ _ _ _ _ _ _ _ _ _ _ _ _ ?_) | skip
      exact ⟨g, nm, cm, rfl, k', Em, Et, hk', HP1.out, HPL.out, HD1.out⟩

end Go.Proofs.Ytgofngilfdnakaa
