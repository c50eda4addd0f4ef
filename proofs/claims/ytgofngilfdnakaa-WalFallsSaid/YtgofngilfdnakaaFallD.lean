/-
  This text proves what a step that appends does in cupellaw04.WalFalls: under bounds that every argument keeps.
-/
import Derived.Test.YtgofngilfdnakaaFallV
namespace Go.Proofs.Ytgofngilfdnakaa
open Go Go.RowKit
attribute [local go_sem] over_cell over_frozen lt_over le_over noB loudUpon ByteArray.mk_append_mk ByteArray.extract_mk drop_full

set_option maxRecDepth 100000 in
set_option maxHeartbeats 12800000 in
theorem fall_d (w Wa : World) (S : Nat → Prop) (p l C O D A n c : Nat) (o : Option Str) (fl : Option Fall) (g : Lg) (m mm : Md) (fc : Array Value) (a1 a2 b1 b2 al : Option Addr) (n1 c1 n2 c2 m1 e1 m2 e2 nl cl : Nat) (kind nn f0 f1 f2 : Int) (ss : Str)
    (hv : FO w Wa S p l C O (.slice a1 n1 c1) (.slice a2 n2 c2) (.slice b1 m1 e1) (.slice b2 m2 e2) (fd c o none fl false) g m mm) (hd : KB Wa S l D fc 56) (ha : KB Wa S l A #[.int .i64 kind, .int .i64 nn, .string ⟨ss.toArray⟩, .slice al nl cl, .int .i64 f0, .int .i64 f1, .int .i64 f2] 64)
    (hp : PP n g m c o) (hn : n ≤ 400) (hss : ss.length ≤ 9223372036854775807) (q7 : ¬ kind = 7) (q4 : ¬ (4 ≤ kind ∧ kind ≤ 6))
    (u0 u1 u2 u3 u4 u7 u8 u11 u12 u13 u15 u16 u17 u18 u19 u20 u21 u22 u23 u24 u25 u26 u27 u28 u29 u30 u31 u32 u33 u34 u35 u36 u37 u38 u39 u40 u41 u42 u43 u44 u45 u46 u47 u48 u49 u50 u51 u52 u53 u54 u55 u56 u57 u58 u59 u60 u61 u62 u63 u64 u65 u66 u67 u68 u69 u70 u71 u72 u73 u74 u75 u76 u77 u78 u79 u80 u81 u82 u83 u84 u85 u86 u87 u88 u89 u90 u91 u92 u93 u94 u95 u96 u97 u98 u99 u100 u101 u102 u103 u104 u105 u106 u107 u108 u109 u110 u111 u112 u113 u114 u115 u116 u117 u118 u119 u120 u121 u122 u123 u124 u125 u126 u127 u128 u129 u130 u131 u132 u133 u134 u135 u136 u137 u138 u139 u140 u141 u142 u143 u144 u145 u146 u147 u148 u149 u150 u151 u152 u153 u154 u155 u156 u157 u158 u159 u160 u161 u162 u163 u164 u165 u166 u167 u168 u169 u170 u171 u172 u173 u174 u175 u176 u177 u178 u179 u180 u181 u182 u183 u184 u185 u186 u187 u188 u189 u190 u191 : Value) (K : Act → World → Prop) (Q' : Exit → Act → World → Prop)
    (hK : ∀ (z15 z16 z81 z82 z83 z84 z85 z86 z87 z88 z89 z90 z91 z92 z93 z94 z95 z96 z97 z98 z99 z100 z101 z102 z103 z104 z105 z106 z107 z108 z109 z110 z111 z112 z113 z114 z115 z116 z117 z118 z119 z120 z121 z122 z123 z124 z125 z126 z127 z128 z129 z130 z131 z132 z133 z134 z135 z136 z137 z138 z139 z140 z141 z142 z143 z144 z145 z146 z147 z148 z149 z150 : Value) (wx : World), Hid (∃ S v1 v2 x1 x2 g m mm c o x fl dn, FO w wx S p l C O v1 v2 x1 x2 (fd c o x fl dn) g m mm ∧ KB wx S l D fc 56 ∧ IP (n + 1) g m c o x fl dn) → K ⟨#[u0, u1, u2, u3, u4, .pointer (some ⟨p, 0, none⟩), .pointer (some ⟨l, 0, none⟩), u7, u8, .pointer (some ⟨C, 0, none⟩), .pointer (some ⟨O, 0, none⟩), u11, u12, u13, .pointer (some ⟨A, 0, none⟩), z15, z16, u17, u18, u19, u20, u21, u22, u23, u24, u25, u26, u27, u28, u29, u30, u31, u32, u33, u34, u35, u36, u37, u38, u39, u40, u41, u42, u43, u44, u45, u46, u47, u48, u49, u50, u51, u52, u53, u54, u55, u56, u57, u58, u59, u60, u61, u62, u63, u64, u65, u66, u67, u68, u69, u70, u71, u72, u73, u74, u75, u76, u77, u78, u79, u80, z81, z82, z83, z84, z85, z86, z87, z88, z89, z90, z91, z92, z93, z94, z95, z96, z97, z98, z99, z100, z101, z102, z103, z104, z105, z106, z107, z108, z109, z110, z111, z112, z113, z114, z115, z116, z117, z118, z119, z120, z121, z122, z123, z124, z125, z126, z127, z128, z129, z130, z131, z132, z133, z134, z135, z136, z137, z138, z139, z140, z141, z142, z143, z144, z145, z146, z147, z148, z149, z150, u151, u152, u153, u154, u155, u156, u157, u158, u159, u160, u161, u162, u163, u164, u165, u166, u167, u168, u169, u170, u171, u172, u173, u174, u175, u176, u177, u178, u179, u180, u181, u182, u183, u184, u185, u186, u187, u188, u189, u190, u191], []⟩ wx) :
    Code.wp Try.prog blk4 (Exit.then K (loudQ Q')) ⟨#[u0, u1, u2, u3, u4, .pointer (some ⟨p, 0, none⟩), .pointer (some ⟨l, 0, none⟩), u7, u8, .pointer (some ⟨C, 0, none⟩), .pointer (some ⟨O, 0, none⟩), u11, u12, u13, .pointer (some ⟨A, 0, none⟩), u15, u16, u17, u18, u19, u20, u21, u22, u23, u24, u25, u26, u27, u28, u29, u30, u31, u32, u33, u34, u35, u36, u37, u38, u39, u40, u41, u42, u43, u44, u45, u46, u47, u48, u49, u50, u51, u52, u53, u54, u55, u56, u57, u58, u59, u60, u61, u62, u63, u64, u65, u66, u67, u68, u69, u70, u71, u72, u73, u74, u75, u76, u77, u78, u79, u80, u81, u82, u83, u84, u85, u86, u87, u88, u89, u90, u91, u92, u93, u94, u95, u96, u97, u98, u99, u100, u101, u102, u103, u104, u105, u106, u107, u108, u109, u110, u111, u112, u113, u114, u115, u116, u117, u118, u119, u120, u121, u122, u123, u124, u125, u126, u127, u128, u129, u130, u131, u132, u133, u134, u135, u136, u137, u138, u139, u140, u141, u142, u143, u144, u145, u146, u147, u148, u149, u150, u151, u152, u153, u154, u155, u156, u157, u158, u159, u160, u161, u162, u163, u164, u165, u166, u167, u168, u169, u170, u171, u172, u173, u174, u175, u176, u177, u178, u179, u180, u181, u182, u183, u184, u185, u186, u187, u188, u189, u190, u191], []⟩ Wa := by
  have HV := Lib.hid hv
  have HD := Lib.hid hd
  have HA := Lib.hid ha
  have HP := Lib.hid hp
  have HDC : Hid (D ≠ C) := box_type hd.cells hv.c.box (by decide)
  have HDO : Hid (D ≠ O) := box_type hd.cells hv.o.box (by decide)
  have HAC : Hid (A ≠ C) := box_type ha.cells hv.c.box (by decide)
  have HAO : Hid (A ≠ O) := box_type ha.cells hv.o.box (by decide)
  clear hv hd ha hp
  conv => arg 2; whnf
  obtain ⟨db, d0, d1, d2, d3, d4, d5, d6, df⟩ := Act4.facts HA.out.cells
  obtain ⟨xb, x0, x1, x2, x3, x4, x5, xf⟩ := HV.out.c.box.facts
  have hk0 := HP.out.size
  have hk1 := HP.out.chs
  have hk2 := HP.out.mks
  have hk3 := HP.out.cnt
  have hk4 := HP.out.holds.long
  have hk5 := HP.out.holds.more
  have hk6 := HP.out.holds.marks
  have hfs := few_length ss
  have HFW := Lib.hid (fun X => few4_calls ss X hss)
  generalize few ss = fs at *
  have b7 : (kind == 7) = false := by simpa using q7
  have hap := LAppend_calls l p g fs Wa HV.out.c.ld.log (by omega) (by omega) (by omega)
  have happ : g.append fs = (((m.long + m.more : Nat) : Int), 0, { g with wait := g.wait ++ frame (100 :: fs) }) := by
    unfold Lg.append
    rw [if_neg (by omega), hk4, hk5]
  rw [happ] at hap
  have HAP := Lib.hid hap
  have HPA := Lib.hid (HP.out.added hfs)
  have HFR := Lib.hid (fun X => frame4_calls fs X (by omega))
  have hbd : m.long + m.more ≤ 300000 := by omega
  have hcn : m.wait.length ≤ 1000 := by omega
  clear hap happ hk0 hk1 hk2 hk3 hk4 hk5 hk6
  go_upto_region 26 with fail
  go_cut [130] from 81 to 150 (fun bv wx => bv = .bool false ∧ wx = Wa)
  case first =>
    by_cases h4 : 4 ≤ kind
    · have h6 : ¬ kind ≤ 6 := fun h => q4 ⟨h4, h⟩
      clear q4
      go_wp2_with fail
      go_meet
      exact ⟨rfl, rfl⟩
    · clear q4
      go_wp2_with fail
      go_meet
      exact ⟨rfl, rfl⟩
  case rest =>
  obtain ⟨rfl, rfl⟩ := hcut
  go_upto_region 20 with (first
    | (go_at_call 19; refine (HFW.out _).mono ?_; rintro e w' ⟨rfl, rfl⟩)
    | (go_at_call 32; refine HAP.out.mono ?_; rintro e w5 ⟨rfl, hm5, hl5⟩; have hv5 := HV.out.logs hm5 hl5; have hd5 := HD.out.logs hm5; have ha5 := HA.out.logs hm5; obtain ⟨yb, y0, y1, y2, y3, y4, y5, yf⟩ := hv5.c.box.facts; obtain ⟨zb, z0, z1, z2, z3, z4, z5, z6, zf⟩ := Act4.facts ha5.cells))
  have HV5 := Lib.hid hv5
  have HD5 := Lib.hid hd5
  have HA5 := Lib.hid ha5
  clear hv5 hd5 ha5 hm5 hl5 HAP HV HD HA x0 x1 x2 x3 x4 x5 xf xb d0 d1 d2 d3 d4 d5 d6 df db
  go_cut [] from 81 to 150 (fun wx => ∃ b n c2, Hid (FO w wx (Since S wc w5) p l C O (.slice a1 n1 c1) (.slice b n c2) (.slice b1 m1 e1) (.slice b2 m2 e2) (fd c o none fl false) { g with wait := g.wait ++ frame (100 :: fs) } { m with wait := m.wait ++ [(((m.long + m.more : Nat) : Int), fs)] } mm) ∧ Hid (KB wx (Since S wc w5) l D fc 56) ∧ Hid (KB wx (Since S wc w5) l A #[.int .i64 kind, .int .i64 nn, .string ⟨ss.toArray⟩, .slice al nl cl, .int .i64 f0, .int .i64 f1, .int .i64 f2] 64))
  case first =>
    go_region_law (first
      | (refine step_call rfl 19 (fun _ => few_enters _ _) (.tmp 95) 9 rfl (v := .string ⟨ss.toArray⟩) (u := .string ⟨fs.toArray⟩) rfl (HFW.out _) ?_)
      | (refine step_recs rfl (.tmp 89) (.tmp 91) rfl (v := .slice (some ⟨_, 0, none⟩) 0 0) (v2 := .slice a2 n2 c2) rfl rfl (base := w5.heap.size) (base2 := w.heap.size) (l := []) (l2 := m.wait) ?_ ?_ ?_ ?_ ?_
         · exact recs_empty (heap_alloc_at _ _ _ rfl) (by omega)
         · exact ownsRow_mod HV5.out.c.r2 (by (repeat (first | with_reducible exact Mod.refl _ _ | with_reducible refine Mod.drew ?_ | with_reducible refine Mod.alloc ?_ _))) (fun _ _ => id)
         · simp only [List.length_nil]; omega
         · simp only [size_alloc, heap_drew]; omega
         intro b6 n6 c6 W6 hr6 hg6 hk6
         have hW6 : Mod NoB w5 W6 := Mod.grown (by (repeat (first | with_reducible exact Mod.refl _ _ | with_reducible refine Mod.drew ?_ | with_reducible refine Mod.alloc ?_ _))) hg6 (fun q hq hl => by simp only [Value.ownBlock, Option.some.injEq] at hq; omega)
         have hk6' : ∀ q, (Value.slice b6 n6 c6).ownBlock = some q → w5.heap.size ≤ q := fun q hq => (hr6.lt q hq).1
         have hd6 := (hW6.block A zb id).trans HA5.out.cells
         have t2 := (cell_heap hd6 2 : W6.cell? ⟨A, 2, none⟩ = some (.string ⟨ss.toArray⟩))
         have tb := lt_heap hd6)
      | (refine step_recs rfl (.tmp 92) (.tmp 98) rfl (v := .slice b6 n6 c6) (v2 := .slice (some ⟨_, 0, none⟩) 1 1) rfl rfl (base := w5.heap.size) (base2 := w5.heap.size) (l := m.wait) (l2 := [(((m.long + m.more : Nat) : Int), fs)]) ?_ ?_ ?_ ?_ ?_
         · exact ownsRow_mod hr6 (by (repeat (first | with_reducible exact Mod.refl _ _ | with_reducible refine Mod.drew ?_ | with_reducible refine Mod.alloc ?_ _))) (fun _ _ => id)
         · exact recs_one (heap_alloc_at _ _ _ rfl) (by have := hW6.size; omega)
         · simp only [List.length_cons, List.length_nil]; omega
         · have := hW6.size; simp only [size_alloc]; omega
         intro b7 n7 c7 W7 hr7 hg7 hk7
         have hW7 : Mod NoB w5 W7 := hW6.trans (Mod.grown (F := fun q => w5.heap.size ≤ q) (by (repeat (first | with_reducible exact Mod.refl _ _ | with_reducible refine Mod.drew ?_ | with_reducible refine Mod.alloc ?_ _))) hg7 (fun q hq hl => hk6' q hq)) (fun q hq h => by omega)
         have hc7 := (World.cell?_of_block (w := w5) (hW7.block C yb id) : W7.cell? ⟨C, 1, none⟩ = _).trans y1
         have hf7 := (World.frozen?_of_block (w := w5) (hW7.block C yb id) : W7.frozen? ⟨C, 1, none⟩ = _).trans (yf 1)
         have hz7 := Nat.lt_of_lt_of_le yb hW7.size))
    all_goals (go_wp2_with fail; go_meet; exact ⟨b7, n7, c7, HV5.out.waited hW7 hr7, (HD5.out.quiet hW7).aside (Mod.setCell (Mod.refl (fun k => k = C) W7) ⟨C, 1, none⟩ (.slice b7 n7 c7) (fun _ => rfl)) HDC.out, (HA5.out.quiet hW7).aside (Mod.setCell (Mod.refl (fun k => k = C) W7) ⟨C, 1, none⟩ (.slice b7 n7 c7) (fun _ => rfl)) HAC.out⟩)
  case rest =>
    obtain ⟨b7, n7, c7, HV6, HD6, HA6⟩ := hcut
    obtain ⟨xb, x0, x1, x2, x3, x4, x5, xf⟩ := HV6.out.c.box.facts
    obtain ⟨tb, t0, t1, t2, t3, t4, t5, t6, tf⟩ := Act4.facts HA6.out.cells
    simp only at x0 x1 x2 x3 x4 x5
    have HFM := Lib.hid (fun X => (HFW.out X).mono (fun e w' (h : e = .returned (.string ⟨fs.toArray⟩) ∧ X = w') => (⟨h.1, h.2 ▸ Mod.refl NoB X⟩ : e = .returned (.string ⟨fs.toArray⟩) ∧ Mod NoB X w')))
    clear HV5 HD5 HA5 y0 y1 y2 y3 y4 y5 yf yb z0 z1 z2 z3 z4 z5 z6 zf zb
    go_upto_region 21 with fail
    refine wp_region_quiet_tail 7 (fun w' => ∃ x, w' = over _ (NoB) x) (by kernel_rfl) (by kernel_rfl) (Cls.drew _ _) ?_
    simp only [List.take_succ_cons, List.take_zero, List.drop_succ_cons, List.drop_zero]
    repeat (go_big_quiet_step ((first | (go_at_call 19; exact Calls.cls (fun _ _ h => h) (HFM.out _)) | (go_at_call 33; exact Calls.cls (fun _ _ h => h) (HFR.out _)))))
    refine wpQuiet_nil ?_
    rintro _ ⟨y, rfl⟩
    go_wp2_with fail
    first | (refine hK _ _ _ _ _ _ _ _ _ _ _ _ _ _ _ _ _ _ _ _ _ _ _ _ _ _ _ _ _ _ _ _ _ _ _ _ _ _ _ _ _ _ _ _ _ _ _ _ _ _ _ _ _ _ _ _ _ _ _ _ _ _ _ _ _ _ _ _ _ _ _ _ _ ?_) | skip
    have e : ((m.more : Int) + ((fs.length : Int) + 9)) = ((m.more + (fs.length + 9) : Nat) : Int) := by omega
    rw [e]
    exact ⟨_, _, _, _, _, _, _, _, _, _, _, _, _, (HV6.out.quiet (over_mod _ _ _)).mored _, (HD6.out.quiet (over_mod _ _ _)).aside (Mod.setCell (Mod.refl (fun k => k = C) _) ⟨C, 3, none⟩ (.int .i64 ((m.more + (fs.length + 9) : Nat) : Int)) (fun _ => rfl)) HDC.out, .inl ⟨rfl, rfl, HPA.out⟩⟩

end Go.Proofs.Ytgofngilfdnakaa
