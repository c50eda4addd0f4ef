/-
  This text proves what a step of kind 7 (Close) does in cupellaw20.SessPlays: under bounds that every argument keeps.
-/
import Derived.Test.YtgofngilfdnakaaSessV
namespace Go.Proofs.Ytgofngilfdnakaa
open Go Go.RowKit
attribute [local go_sem] over_cell over_frozen lt_over le_over noB loudUpon

set_option maxRecDepth 100000 in
set_option maxHeartbeats 12800000 in
theorem sess_k7 (w Wa : World) (t b D k g nm cm i n : Nat) (is : Bool) (s : Int) (Em Et : Es)
    (hp : PS w Wa t b k (.slice (some ⟨g, 0, none⟩) nm cm) Em Et) (hpl : pl Em = pl Et) (hd : KA Wa t b Et D #[.int .i64 7, .int .i64 s, .int .u32 n] 75) (hi : i = findAt Em s) (his : is = isAt Em s) (_hk : k ≤ 300) (hs0 : -9223372036854775808 ≤ s) (hs1 : s ≤ 9223372036854775807)
    (u0 u1 u2 u5 u9 u10 u11 u12 u13 u14 u15 u16 u17 u18 u19 u20 u21 u22 u23 u24 u25 u26 u27 u28 u29 u30 u31 u32 u33 u34 u35 u36 u37 u38 u39 u40 u41 u42 u43 u44 u46 u47 u48 u49 u50 u51 u52 u53 u54 u55 u56 u57 u58 u59 u60 u61 u62 u63 u64 u65 u66 u67 u68 u69 u70 u71 u72 u73 u74 u75 u76 u77 u78 u79 u80 u81 u82 u83 u84 u85 u86 u87 u88 u89 u90 u91 u92 u93 u94 u95 u96 u97 u98 u99 u100 u101 u102 u103 u104 u105 u106 u107 u108 u109 u110 u111 u112 u113 u114 u115 u116 u117 u118 u119 u120 u121 u122 u123 u124 u125 u126 u127 u128 u129 u130 u131 u132 u133 u134 u135 u136 u137 u138 u139 u140 u141 u142 u143 u144 u145 u146 u147 u148 u149 u150 u151 u152 u153 u154 u155 u156 u157 u158 u159 u160 u161 u162 u163 u164 u165 u166 u167 u168 u169 u170 u171 u172 u173 u174 u175 u176 u177 u178 u179 u180 u181 u182 u183 u184 u185 u186 u187 u188 u189 u190 u191 u192 u193 u194 u195 u196 u197 u198 u199 u200 u201 : Value) (K : Act → World → Prop) (Q' : Exit → Act → World → Prop)
    (hK : ∀ (z4 z9 z10 z11 z12 z13 z14 z46 z47 z48 z49 z50 z51 z52 z53 z54 z55 z56 z57 z58 z59 z60 z61 z62 z63 z64 z65 z66 z67 z68 z69 z70 z71 z72 z73 z74 z75 z76 z77 z78 z79 z80 z81 z82 z83 z84 z85 z86 z87 z88 z89 z90 z91 z92 z93 z94 z95 z96 z97 z98 z99 z100 z101 z102 z103 z104 z105 z106 z107 z108 z109 z110 z111 z112 z113 z114 z115 z116 z117 z118 z119 z120 z121 z122 z123 z124 z125 z126 z127 z128 z129 z130 z131 z132 z133 z134 z135 z136 z137 z138 z139 z140 z141 z142 z143 z144 z145 z146 z147 z148 z149 z150 z151 z152 z153 z154 z155 z156 z157 z158 z159 z160 z161 z162 z163 z164 z165 z166 z167 z168 z169 z170 z171 z172 z173 z174 z175 z176 z177 z178 z179 z180 z181 z182 z183 z184 z185 z186 z187 z188 z189 z190 z191 z192 z193 z194 z195 : Value) (wx : World), SG w wx t b D k (.int .i64 7) (.int .i64 s) (.int .u32 n) z4 → K ⟨#[u0, u1, u2, .pointer (some ⟨t, 0, none⟩), z4, u5, .pointer (some ⟨D, 0, none⟩), .int .i64 i, .bool is, z9, z10, z11, z12, z13, z14, u15, u16, u17, u18, u19, u20, u21, u22, u23, u24, u25, u26, u27, u28, u29, u30, u31, u32, u33, u34, u35, u36, u37, u38, u39, u40, u41, u42, u43, u44, .int .i64 7, z46, z47, z48, z49, z50, z51, z52, z53, z54, z55, z56, z57, z58, z59, z60, z61, z62, z63, z64, z65, z66, z67, z68, z69, z70, z71, z72, z73, z74, z75, z76, z77, z78, z79, z80, z81, z82, z83, z84, z85, z86, z87, z88, z89, z90, z91, z92, z93, z94, z95, z96, z97, z98, z99, z100, z101, z102, z103, z104, z105, z106, z107, z108, z109, z110, z111, z112, z113, z114, z115, z116, z117, z118, z119, z120, z121, z122, z123, z124, z125, z126, z127, z128, z129, z130, z131, z132, z133, z134, z135, z136, z137, z138, z139, z140, z141, z142, z143, z144, z145, z146, z147, z148, z149, z150, z151, z152, z153, z154, z155, z156, z157, z158, z159, z160, z161, z162, z163, z164, z165, z166, z167, z168, z169, z170, z171, z172, z173, z174, z175, z176, z177, z178, z179, z180, z181, z182, z183, z184, z185, z186, z187, z188, z189, z190, z191, z192, z193, z194, z195, u196, u197, u198, u199, u200, u201], []⟩ wx) :
    Code.wp Try.prog blkS (Exit.then K (loudS Q')) ⟨#[u0, u1, u2, .pointer (some ⟨t, 0, none⟩), .slice (some ⟨g, 0, none⟩) nm cm, u5, .pointer (some ⟨D, 0, none⟩), .int .i64 i, .bool is, u9, u10, u11, u12, u13, u14, u15, u16, u17, u18, u19, u20, u21, u22, u23, u24, u25, u26, u27, u28, u29, u30, u31, u32, u33, u34, u35, u36, u37, u38, u39, u40, u41, u42, u43, u44, .int .i64 7, u46, u47, u48, u49, u50, u51, u52, u53, u54, u55, u56, u57, u58, u59, u60, u61, u62, u63, u64, u65, u66, u67, u68, u69, u70, u71, u72, u73, u74, u75, u76, u77, u78, u79, u80, u81, u82, u83, u84, u85, u86, u87, u88, u89, u90, u91, u92, u93, u94, u95, u96, u97, u98, u99, u100, u101, u102, u103, u104, u105, u106, u107, u108, u109, u110, u111, u112, u113, u114, u115, u116, u117, u118, u119, u120, u121, u122, u123, u124, u125, u126, u127, u128, u129, u130, u131, u132, u133, u134, u135, u136, u137, u138, u139, u140, u141, u142, u143, u144, u145, u146, u147, u148, u149, u150, u151, u152, u153, u154, u155, u156, u157, u158, u159, u160, u161, u162, u163, u164, u165, u166, u167, u168, u169, u170, u171, u172, u173, u174, u175, u176, u177, u178, u179, u180, u181, u182, u183, u184, u185, u186, u187, u188, u189, u190, u191, u192, u193, u194, u195, u196, u197, u198, u199, u200, u201], []⟩ Wa := by
  obtain ⟨_, hg0, hnm, hnc⟩ := ops_some hp.ms.ops (by simp)
  clear hg0
  have hle := hp.ts.length
  have hlen := pl_len hpl
  have hix : i ≤ Em.length := by rw [hi]; exact List.Sublist.length_le (List.takeWhile_sublist _)
  have hsz : w.heap.size ≤ Wa.heap.size := hp.mod.size
  have hn64 : nm ≤ 64 := by omega
  have hin : i ≤ nm := by omega
  have HP := Lib.hid hp
  have HPL := Lib.hid hpl
  have HD := Lib.hid hd
  have HI := Lib.hid hi
  have HIS := Lib.hid his
  have HNM := Lib.hid hnm
  clear hp hpl hd hi his hle hlen hix hnm
  conv => arg 2; whnf
  obtain ⟨db, d0, d1, d2, df⟩ := Act3.facts HD.out.cells
  have HCL := Lib.hid (PClose HP.out HPL.out HI.out hs0 hs1)
  cases is with
  | false =>
    rw [← HIS.out] at HCL
    go_wp2_with fail
    refine HCL.out.mono ?_
    rintro e W1 ⟨v, rfl, E', k', hk', hp1, hst1, hnv, hcase⟩
    obtain ⟨av, cv, rfl, _⟩ := hnv.shape
    have HP1 := Lib.hid hp1
    have HD1 := Lib.hid (HD.out.step hst1)
    have HCA := Lib.hid hcase
    clear hp1 hst1 hcase hnv HCL HP HD d0 d1 d2 df db
    have hlen0 : (if false = true then listAt Em s else ([] : List Nat)).length = 0 := rfl
    rw [hlen0]
    clear hlen0
    go_wp2_with fail
    go_loop [2, 13] (fun r x => r = u2 ∧ x = .int .i64 0) (fun _ _ => 0)
    case atStart => exact ⟨rfl, rfl⟩
    case round =>
      obtain ⟨rfl, rfl⟩ := hrel
      go_wp2_with fail
      first | (refine hK _ _ _ _ _ _ _ _ _ _ _ _ _ _ _ _ _ _ _ _ _ _ _ _ _ _ _ _ _ _ _ _ _ _ _ _ _ _ _ _ _ _ _ _ _ _ _ _ _ _ _ _ _ _ _ _ _ _ _ _ _ _ _ _ _ _ _ _ _ _ _ _ _ _ _ _ _ _ _ _ _ _ _ _ _ _ _ _ _ _ _ _ _ _ _ _ _ _ _ _ _ _ _ _ _ _ _ _ _ _ _ _ _ _ _ _ _ _ _ _ _ _ _ _ _ _ _ _ _ _ _ _ _ _ _ _ _ _ _ _ _ _ _ _ _ _ _ _ _ _ _ _ _ _ _ _ _ _ ?_) | skip
      rcases HCA.out with ⟨_, rfl⟩ | ⟨h2, _⟩
      · exact ⟨g, nm, cm, rfl, k', Em, _, by omega, HP1.out.quiet ((Mod.refl _ _).alloc _), HPL.out, HD1.out.quiet ((Mod.refl _ _).alloc _)⟩
      · cases h2
  | true =>
    obtain ⟨hlt, hkey, hL⟩ := is_lt HI.out HIS.out.symm
    have hltn : i < nm := by rw [HNM.out]; exact hlt
    obtain ⟨al, cl, hv, hcl⟩ : ∃ al cl, Em[i].2.1 = .slice al (listAt Em s).length cl ∧ (listAt Em s).length ≤ cl := by
      obtain ⟨al, cl, hv, hcl, _⟩ := (HP.out.ms.nums _ (List.getElem_mem hlt)).shape
      rw [hL]
      exact ⟨al, cl, hv, hcl⟩
    have hNU : Nums Wa w.heap.size (.slice al (listAt Em s).length cl) (listAt Em s) := by
      have := HP.out.ms.nums _ (List.getElem_mem hlt)
      rw [hv, ← hL] at this
      exact this
    have hcell : Wa.cell? ⟨g, i * 2 + 1, none⟩ = some (.slice al (listAt Em s).length cl) := by
      obtain ⟨a9, c9, h9, _, hc9⟩ := HP.out.ms.ops.cells
      obtain ⟨q, hq, _, _, h2⟩ := hc9 i hlt
      cases h9
      cases hq
      rw [h2, hv]
    have hgl : g < Wa.heap.size := (HP.out.ms.ops.lt g rfl).2
    have hll : (listAt Em s).length ≤ 4 := by
      have hlt2 : i < Et.length := by rw [← pl_len HPL.out]; exact hlt
      have := HP.out.ts.lens _ (List.getElem_mem hlt2)
      rw [hL, (pl_at HPL.out i hlt hlt2).2]
      exact this
    have HNU := Lib.hid hNU
    have HLT := Lib.hid hlt
    have HKEY := Lib.hid hkey
    have HV := Lib.hid hv
    have HL := Lib.hid hL
    clear hNU hkey hv hL
    have HSLI := Lib.hid HP.out.ms.slices
    rw [← HIS.out] at HCL
    simp only [if_true] at HCL
    generalize hLL : listAt Em s = L at *
    have HLL := Lib.hid hLL
    clear hLL
    go_wp2_with fail
    refine HCL.out.mono ?_
    rintro e W1 ⟨v, rfl, E', k', hk', hp1, hst1, hnv, hcase⟩
    have hE' : E' = Et.eraseIdx i := by
      rcases hcase with ⟨h1, _⟩ | ⟨_, h1⟩
      · cases h1
      · exact h1
    subst hE'
    obtain ⟨av, cv, hvv, hcv, hgc⟩ := hnv.shape
    subst hvv
    have HP1 := Lib.hid hp1
    have HD1 := Lib.hid (HD.out.step hst1)
    have HNV := Lib.hid hnv
    have HGC := Lib.hid hgc
    have hcell1 : W1.cell? ⟨g, i * 2 + 1, none⟩ = some (.slice al L.length cl) := by
      obtain ⟨a9, c9, h9, _, hc9⟩ := hp1.ms.ops.cells
      obtain ⟨q, hq, _, _, h2⟩ := hc9 i HLT.out
      cases h9
      cases hq
      rw [h2, HV.out]
    have hgl1 : g < W1.heap.size := (hp1.ms.ops.lt g rfl).2
    have hNU1 : Nums W1 w.heap.size (.slice al L.length cl) L := by
      have := hp1.ms.nums _ (List.getElem_mem HLT.out)
      rw [HV.out, ← HL.out] at this
      exact this
    have HNU1 := Lib.hid hNU1
    have hsz1 := hp1.mod.size
    clear hp1 hst1 hcase hnv hgc HCL HP HD d0 d1 d2 df db hcell hgl HNU hNU1
    have hin' : (i : Int) ≤ (nm : Int) := by omega
    have hi0' : (0 : Int) ≤ (i : Int) := by omega
    have hic : i ≤ cm := by omega
    have hic1 : i + 1 ≤ cm := by omega
    have hin1 : i + 1 ≤ nm := by omega
    have hi7 : (i : Int) + 1 ≤ (nm : Int) := by omega
    have hi6 : (0 : Int) ≤ (i : Int) + 1 := by omega
    have hi9 : IntKind.i64.wrap ((i : Int) + 1) = (i : Int) + 1 := by rw [IntKind.wrap_i64]; omega
    have hi8 : ((i : Int) + 1).toNat = i + 1 := by omega
    have HO : Hid (OpsAt W1 w.heap.size (.slice (some ⟨g, 0, none⟩) Em.length cm) Em) := by rw [← HNM.out]; exact HP1.out.ms.ops
    have HPT : Hid (∀ X, Mod NoB W1 X → PartAt X 2 (.slice (some ⟨g, 0, none⟩) i cm) i (opCells (Em.take i))) := fun X hX => ops_part_take (ownsRow_mod HO.out hX (fun _ _ => id)) (by rw [← HNM.out]; exact hin) (by rw [← HNM.out]; exact hnc)
    have HPD : Hid (∀ X, Mod NoB W1 X → PartAt X 2 (.slice (if cm = i + 1 then some ⟨g, 0, none⟩ else some ⟨g, (i + 1) * 2, none⟩) (nm - (i + 1)) (cm - (i + 1))) (nm - (i + 1)) (opCells (Em.drop (i + 1)))) := fun X hX => by
      have := HNM.out
      rw [this] at hnc hin1 ⊢
      by_cases hci : cm = i + 1
      · rw [if_pos hci]
        exact ops_part_drop (ownsRow_mod HO.out hX (fun _ _ => id)) hin1 (by omega) _ (fun h => by omega)
      · rw [if_neg hci]
        exact ops_part_drop (ownsRow_mod HO.out hX (fun _ _ => id)) hin1 (by omega) _ (fun _ => rfl)
    go_upto_region 36 with fail
    go_cut [4] from 46 to 195 (fun z wx => ∃ g9 c9, z = .slice (some ⟨g9, 0, none⟩) (nm - 1) c9 ∧ Hid (PS w wx t b k' (.slice (some ⟨g9, 0, none⟩) (nm - 1) c9) (Em.eraseIdx i) (Et.eraseIdx i) ∧ Mod NoB W1 wx))
    case first =>
      go_region_law (first
        | (refine step_own rfl (.tmp 166) (.tmp 169) 72 rfl (v := .slice (some ⟨_, 0, none⟩) 0 0) (v2 := .slice (some ⟨g, 0, none⟩) i cm) rfl rfl (base := W1.heap.size) (n := 0) (m := i) (xs := []) (ys := opCells (Em.take i)) i (opCells (Em.take i)) elemOp (by decide) ?_ ?_ ?_ ?_ ?_ rfl ?_ ?_
           · exact row_empty (by first | exact heap_alloc_at' _ _ _ rfl | exact heap_alloc_at' _ _ _ (by simp) | exact heap_alloc_old' _ _ _ (by (first | omega | (simp only [size_alloc]; omega) | (simp only [size_alloc, heap_drew]; omega))) (heap_alloc_at' _ _ _ (by first | rfl | simp))) (by (first | omega | (simp only [size_alloc]; omega) | (simp only [size_alloc, heap_drew]; omega)))
           · exact HPT.out _ (by (repeat (first | with_reducible exact Mod.refl _ _ | with_reducible refine Mod.drew ?_ | with_reducible refine Mod.alloc ?_ _)))
           · exact opCells_one (fun e he => HSLI.out e (List.mem_of_mem_take he))
           · omega
           · omega
           · (first | omega | (simp only [size_alloc]; omega) | (simp only [size_alloc, heap_drew]; omega))
           intro b6 c6 W6 hr6 hg6 hk6
           have hW6 : Mod NoB W1 W6 := Mod.grown (by (repeat (first | with_reducible exact Mod.refl _ _ | with_reducible refine Mod.drew ?_ | with_reducible refine Mod.alloc ?_ _))) hg6 (fun q hq hl => by simp only [Value.ownBlock, Option.some.injEq] at hq; (try simp only [size_alloc] at hq); omega)
           have hn6 : b6 ≠ none := fun e => by subst e; rcases hk6 with e | e <;> cases e)
        | (refine step_own rfl (.tmp 170) (.tmp 174) 72 rfl (v := .slice b6 i c6) (v2 := .slice (if cm = i + 1 then some ⟨g, 0, none⟩ else some ⟨g, (i + 1) * 2, none⟩) (nm - (i + 1)) (cm - (i + 1))) rfl rfl (base := W1.heap.size) (n := i) (m := nm - (i + 1)) (xs := opCells (Em.take i)) (ys := opCells (Em.drop (i + 1))) (nm - 1) (opCells (Em.eraseIdx i)) elemOp (by decide) ?_ ?_ ?_ ?_ ?_ ?_ ?_ ?_
           · exact ownsRow_mod hr6 (by (repeat (first | with_reducible exact Mod.refl _ _ | with_reducible refine Mod.drew ?_ | with_reducible refine Mod.alloc ?_ _))) (fun _ _ => id)
           · exact HPD.out _ (hW6.trans (by (repeat (first | with_reducible exact Mod.refl _ _ | with_reducible refine Mod.drew ?_ | with_reducible refine Mod.alloc ?_ _))) (fun _ _ h => h))
           · exact opCells_one (fun e he => HSLI.out e (List.mem_of_mem_drop he))
           · omega
           · omega
           · rw [← opCells_append, ← List.eraseIdx_eq_take_drop_succ]
           · have := hW6.size; (first | omega | (simp only [size_alloc]; omega) | (simp only [size_alloc, heap_drew]; omega))
           intro b7 c7 W7 hr7 hg7 hk7
           have hW7 : Mod NoB W1 W7 := hW6.trans (Mod.grown (F := fun q => W1.heap.size ≤ q) (by (repeat (first | with_reducible exact Mod.refl _ _ | with_reducible refine Mod.drew ?_ | with_reducible refine Mod.alloc ?_ _))) hg7 (fun q hq hl => (hr6.lt q hq).1)) (fun q hq h => by omega)
           have hn7 : b7 ≠ none := fun e => by
             subst e
             obtain ⟨a8, c8, h8, _, h9⟩ := row_shape hr6
             cases h8
             obtain ⟨x8, rfl⟩ := Option.ne_none_iff_exists'.1 hn6
             obtain ⟨q8, rfl, _⟩ := h9 _ rfl
             rcases hk7 with e | e <;> cases e))
      all_goals go_wp2_with fail
      all_goals
        go_meet
        have hr9 : OpsAt W7 W1.heap.size (.slice b7 (nm - 1) c7) (Em.eraseIdx i) := by
          unfold OpsAt
          rw [List.length_eraseIdx, if_pos HLT.out, ← HNM.out]
          exact hr7
        obtain ⟨g9, rfl, _, _⟩ := ops_some hr9 hn7
        exact ⟨g9, c7, rfl, HP1.out.turned hW7 hr9 (fun e he => .inl (List.mem_of_mem_eraseIdx he)), hW7⟩
    case rest =>
      obtain ⟨g9, c9, rfl, HR⟩ := hcut
      have HCELLS : Hid (∀ q, q < L.length → ∀ X, Mod NoB wc X → ∃ z1 z2 : Nat, av = some ⟨z1, 0, none⟩ ∧ al = some ⟨z2, 0, none⟩ ∧ z1 < X.heap.size ∧ z2 < X.heap.size ∧ X.cell? ⟨z1, q, none⟩ = some (.int .u32 (L[q]?.getD 0 : Nat)) ∧ X.cell? ⟨z2, q, none⟩ = some (.int .u32 (L[q]?.getD 0 : Nat))) := fun q hq X hX => by
        have hX1 : Mod NoB W1 X := HR.out.2.trans hX (fun _ _ h => h)
        obtain ⟨_, _, e1, _, h1⟩ := Nums.shape (ownsRow_mod HNV.out hX1 (fun _ _ => id) : Nums X w.heap.size _ L)
        obtain ⟨_, _, e2, _, h2⟩ := Nums.shape (ownsRow_mod HNU1.out hX1 (fun _ _ => id) : Nums X w.heap.size _ L)
        cases e1
        cases e2
        rcases h1 with h1 | ⟨z1, cur1, rfl, k1, _, _, k2⟩
        · omega
        rcases h2 with h2 | ⟨z2, cur2, rfl, j1, _, _, j2⟩
        · omega
        exact ⟨z1, z2, rfl, rfl, lt_heap k1, lt_heap j1, (cell_heap k1 q).trans (k2 q hq), (cell_heap j1 q).trans (j2 q hq)⟩
      clear hi8 hi9
      go_wp2_with fail
      go_loopw [2, 13] (fun r x wr => ∃ q : Nat, q ≤ L.length ∧ r = u2 ∧ x = .int .i64 q ∧ Hid (Mod NoB wc wr)) (fun _ x _ => L.length - (intOf x).toNat)
      case atStart => exact ⟨0, by omega, rfl, rfl, Lib.hid (Mod.refl _ _)⟩
      case round =>
        obtain ⟨q, hq, rfl, rfl, HM⟩ := hrel
        by_cases hqlt : q < L.length
        · obtain ⟨z1, z2, rfl, rfl, s1, s2, y1, y2⟩ := HCELLS.out q hqlt wr HM.out
          clear HCELLS
          go_upto_region 42 with fail
          refine wp_region_quiet_all (fun w' => ∃ x, w' = over _ (NoB) x) (by kernel_rfl) (by kernel_rfl) (Cls.drew _ _) ?_
          repeat (go_big_quiet_step (fail))
          refine wpQuiet_nil ?_
          rintro _ ⟨y, rfl⟩
          have HM2 : Hid (Mod NoB wc (over wr NoB y)) := HM.out.trans (over_mod _ _ _) (fun _ _ h => h)
          go_wp2_with fail
          go_roundw
          case rel => exact ⟨q + 1, by omega, rfl, by go_num, HM2⟩
          case measure => simp [intOf]; omega
        · go_wp2_with fail
          first | (refine hK _ _ _ _ _ _ _ _ _ _ _ _ _ _ _ _ _ _ _ _ _ _ _ _ _ _ _ _ _ _ _ _ _ _ _ _ _ _ _ _ _ _ _ _ _ _ _ _ _ _ _ _ _ _ _ _ _ _ _ _ _ _ _ _ _ _ _ _ _ _ _ _ _ _ _ _ _ _ _ _ _ _ _ _ _ _ _ _ _ _ _ _ _ _ _ _ _ _ _ _ _ _ _ _ _ _ _ _ _ _ _ _ _ _ _ _ _ _ _ _ _ _ _ _ _ _ _ _ _ _ _ _ _ _ _ _ _ _ _ _ _ _ _ _ _ _ _ _ _ _ _ _ _ _ _ _ _ _ ?_) | skip
          exact ⟨g9, _, c9, rfl, k', _, _, by omega, HR.out.1.quiet HM.out, pl_erase HPL.out i, HD1.out.quiet (HR.out.2.trans HM.out (fun _ _ h => h))⟩

end Go.Proofs.Ytgofngilfdnakaa
