/-
  This text proves what a step that commits does in cupellaw04.WalFalls: under bounds that every argument keeps.
-/
import Derived.Test.YtgofngilfdnakaaFallV
namespace Go.Proofs.Ytgofngilfdnakaa
open Go Go.RowKit
attribute [local go_sem] over_cell over_frozen lt_over le_over noB loudUpon ByteArray.mk_append_mk ByteArray.extract_mk drop_full

set_option maxRecDepth 100000 in
set_option maxHeartbeats 12800000 in
theorem fall_c (w Wa : World) (S : Nat → Prop) (p l C O D A n c : Nat) (o : Option Str) (fl : Option Fall) (g : Lg) (m mm : Md) (fc : Array Value) (a1 a2 b1 b2 al : Option Addr) (n1 c1 n2 c2 m1 e1 m2 e2 nl cl : Nat) (kind nn f0 f1 f2 : Int) (ss : Str)
    (hv : FO w Wa S p l C O (.slice a1 n1 c1) (.slice a2 n2 c2) (.slice b1 m1 e1) (.slice b2 m2 e2) (fd c o none fl false) g m mm) (hd : KB Wa S l D fc 56) (ha : KB Wa S l A #[.int .i64 kind, .int .i64 nn, .string ⟨ss.toArray⟩, .slice al nl cl, .int .i64 f0, .int .i64 f1, .int .i64 f2] 64)
    (hp : PP n g m c o) (hn : n ≤ 400) (hss : ss.length ≤ 9223372036854775807) (q7 : ¬ kind = 7) (q4 : 4 ≤ kind) (q6 : kind ≤ 6)
    (u0 u1 u2 u3 u4 u7 u8 u11 u12 u13 u15 u16 u17 u18 u19 u20 u21 u22 u23 u24 u25 u26 u27 u28 u29 u30 u31 u32 u33 u34 u35 u36 u37 u38 u39 u40 u41 u42 u43 u44 u45 u46 u47 u48 u49 u50 u51 u52 u53 u54 u55 u56 u57 u58 u59 u60 u61 u62 u63 u64 u65 u66 u67 u68 u69 u70 u71 u72 u73 u74 u75 u76 u77 u78 u79 u80 u81 u82 u83 u84 u85 u86 u87 u88 u89 u90 u91 u92 u93 u94 u95 u96 u97 u98 u99 u100 u101 u102 u103 u104 u105 u106 u107 u108 u109 u110 u111 u112 u113 u114 u115 u116 u117 u118 u119 u120 u121 u122 u123 u124 u125 u126 u127 u128 u129 u130 u131 u132 u133 u134 u135 u136 u137 u138 u139 u140 u141 u142 u143 u144 u145 u146 u147 u148 u149 u150 u151 u152 u153 u154 u155 u156 u157 u158 u159 u160 u161 u162 u163 u164 u165 u166 u167 u168 u169 u170 u171 u172 u173 u174 u175 u176 u177 u178 u179 u180 u181 u182 u183 u184 u185 u186 u187 u188 u189 u190 u191 : Value) (K : Act → World → Prop) (Q' : Exit → Act → World → Prop)
    (hK : ∀ (z15 z16 z81 z82 z83 z84 z85 z86 z87 z88 z89 z90 z91 z92 z93 z94 z95 z96 z97 z98 z99 z100 z101 z102 z103 z104 z105 z106 z107 z108 z109 z110 z111 z112 z113 z114 z115 z116 z117 z118 z119 z120 z121 z122 z123 z124 z125 z126 z127 z128 z129 z130 z131 z132 z133 z134 z135 z136 z137 z138 z139 z140 z141 z142 z143 z144 z145 z146 z147 z148 z149 z150 : Value) (wx : World), Hid (∃ S v1 v2 x1 x2 g m mm c o x fl dn, FO w wx S p l C O v1 v2 x1 x2 (fd c o x fl dn) g m mm ∧ KB wx S l D fc 56 ∧ IP (n + 1) g m c o x fl dn) → K ⟨#[u0, u1, u2, u3, u4, .pointer (some ⟨p, 0, none⟩), .pointer (some ⟨l, 0, none⟩), u7, u8, .pointer (some ⟨C, 0, none⟩), .pointer (some ⟨O, 0, none⟩), u11, u12, u13, .pointer (some ⟨A, 0, none⟩), z15, z16, u17, u18, u19, u20, u21, u22, u23, u24, u25, u26, u27, u28, u29, u30, u31, u32, u33, u34, u35, u36, u37, u38, u39, u40, u41, u42, u43, u44, u45, u46, u47, u48, u49, u50, u51, u52, u53, u54, u55, u56, u57, u58, u59, u60, u61, u62, u63, u64, u65, u66, u67, u68, u69, u70, u71, u72, u73, u74, u75, u76, u77, u78, u79, u80, z81, z82, z83, z84, z85, z86, z87, z88, z89, z90, z91, z92, z93, z94, z95, z96, z97, z98, z99, z100, z101, z102, z103, z104, z105, z106, z107, z108, z109, z110, z111, z112, z113, z114, z115, z116, z117, z118, z119, z120, z121, z122, z123, z124, z125, z126, z127, z128, z129, z130, z131, z132, z133, z134, z135, z136, z137, z138, z139, z140, z141, z142, z143, z144, z145, z146, z147, z148, z149, z150, u151, u152, u153, u154, u155, u156, u157, u158, u159, u160, u161, u162, u163, u164, u165, u166, u167, u168, u169, u170, u171, u172, u173, u174, u175, u176, u177, u178, u179, u180, u181, u182, u183, u184, u185, u186, u187, u188, u189, u190, u191], []⟩ wx) :
    Code.wp Try.prog blk4 (Exit.then K (loudQ Q')) ⟨#[u0, u1, u2, u3, u4, .pointer (some ⟨p, 0, none⟩), .pointer (some ⟨l, 0, none⟩), u7, u8, .pointer (some ⟨C, 0, none⟩), .pointer (some ⟨O, 0, none⟩), u11, u12, u13, .pointer (some ⟨A, 0, none⟩), u15, u16, u17, u18, u19, u20, u21, u22, u23, u24, u25, u26, u27, u28, u29, u30, u31, u32, u33, u34, u35, u36, u37, u38, u39, u40, u41, u42, u43, u44, u45, u46, u47, u48, u49, u50, u51, u52, u53, u54, u55, u56, u57, u58, u59, u60, u61, u62, u63, u64, u65, u66, u67, u68, u69, u70, u71, u72, u73, u74, u75, u76, u77, u78, u79, u80, u81, u82, u83, u84, u85, u86, u87, u88, u89, u90, u91, u92, u93, u94, u95, u96, u97, u98, u99, u100, u101, u102, u103, u104, u105, u106, u107, u108, u109, u110, u111, u112, u113, u114, u115, u116, u117, u118, u119, u120, u121, u122, u123, u124, u125, u126, u127, u128, u129, u130, u131, u132, u133, u134, u135, u136, u137, u138, u139, u140, u141, u142, u143, u144, u145, u146, u147, u148, u149, u150, u151, u152, u153, u154, u155, u156, u157, u158, u159, u160, u161, u162, u163, u164, u165, u166, u167, u168, u169, u170, u171, u172, u173, u174, u175, u176, u177, u178, u179, u180, u181, u182, u183, u184, u185, u186, u187, u188, u189, u190, u191], []⟩ Wa := by
  have HV := Lib.hid hv
  have HD := Lib.hid hd
  have HA := Lib.hid ha
  have HP := Lib.hid hp
  have HDC : Hid (D ≠ C) := box_type hd.cells hv.c.box (by decide)
  have HDO : Hid (D ≠ O) := box_type hd.cells hv.o.box (by decide)
  have HAC : Hid (A ≠ C) := box_type ha.cells hv.c.box (by decide)
  have HAO : Hid (A ≠ O) := box_type ha.cells hv.o.box (by decide)
  clear hv hd ha hp
  conv => arg 2; whnf
  obtain ⟨db, d0, d1, d2, d3, d4, d5, d6, df⟩ := Act4.facts HA.out.cells
  obtain ⟨xb, x0, x1, x2, x3, x4, x5, xf⟩ := HV.out.c.box.facts
  have hk0 := HP.out.size
  have hk1 := HP.out.chs
  have hk2 := HP.out.mks
  have hk3 := HP.out.cnt
  have hk4 := HP.out.holds.long
  have hk5 := HP.out.holds.more
  have hk6 := HP.out.holds.marks
  have hfs := few_length ss
  have HFW := Lib.hid (fun X => few4_calls ss X hss)
  generalize few ss = fs at *
  have b7 : (kind == 7) = false := by simpa using q7
  have hfit : Fit (fd c o none fl false) 400000 := fd_fit (by have := HP.out.file; rw [this]; simp only [Option.getD_none, List.length_nil]; omega) (by omega)
  have hmc : ∀ Z, RecsAt Z w.heap.size (.slice a1 n1 c1) m.sure → RecsAt Z w.heap.size (.slice a2 n2 c2) m.wait → Calls Try.prog 29 #[.agg #[.slice a1 n1 c1, .slice a2 n2 c2, .int .i64 m.long, .int .i64 m.more, .string ⟨m.root.toArray⟩, .int .i64 m.marks], .string ⟨fs.toArray⟩] Z fun e w' => ∃ v', e = .returned (.agg #[v', .slice none 0 0, .int .i64 (m.commit fs).long, .int .i64 (m.commit fs).more, .string ⟨(m.commit fs).root.toArray⟩, .int .i64 (m.commit fs).marks]) ∧ Mod NoB Z w' ∧ RecsAt w' Z.heap.size v' (m.commit fs).sure := fun Z h1 h2 =>
    mcommit_calls _ _ _ _ m.sure m.wait m.long m.more m.marks m.root fs Z h1 h2 (by omega) (by omega) (by omega) (by omega) (by omega)
  have HMC := Lib.hid hmc
  have HCC : Hid (∀ X mx y1 y2, FO w X S p l C O (.slice a1 n1 c1) (.slice a2 n2 c2) y1 y2 (fd c o none fl false) g m mx → Calls Try.prog 28 #[.pointer (some ⟨l, 0, none⟩), .string ⟨fs.toArray⟩] X fun e w' => e = .returned (.int .i64 (g.commit (fd c o none fl false) fs).1) ∧ Mod (fun k => S k ∨ k = l) X w' ∧ LogAt w' l p (g.commit (fd c o none fl false) fs).2.1 ∧ Disk w' p (Since S X w') (g.commit (fd c o none fl false) fs).2.2) := fun X mx y1 y2 hv =>
    LCommit_calls l p S (fd c o none fl false) g fs 400000 X hv.c.ld.log hv.c.ld.disk hv.c.ld.sl hfit (by omega) (by omega) (by omega) (by omega)
  have HPC := Lib.hid (HP.out.committed hfs)
  have HFC := Lib.hid (fd_commit c o fl g fs (by omega) HP.out.file)
  clear hmc hfit hk0 hk1 hk2 hk3 hk4 hk5 hk6
  go_upto_region 27 with fail
  go_cut [] from 81 to 150 (fun wx => ∃ q3 n3 c3, Hid (FO w wx S p l C O (.slice a1 n1 c1) (.slice a2 n2 c2) (.slice q3 n3 c3) (.slice none 0 0) (fd c o none fl false) g m (m.commit fs)) ∧ Hid (KB wx S l D fc 56) ∧ Hid (KB wx S l A #[.int .i64 kind, .int .i64 nn, .string ⟨ss.toArray⟩, .slice al nl cl, .int .i64 f0, .int .i64 f1, .int .i64 f2] 64))
  case first =>
    go_region_with (first
      | (go_at_call 19; refine (HFW.out _).mono ?_; rintro e w' ⟨rfl, rfl⟩)
      | (go_at_call 29; refine (HMC.out _ ?_ ?_).mono ?_; exact ownsRow_mod HV.out.c.r1 ((Mod.refl _ _).drew) (fun _ _ => id); exact ownsRow_mod HV.out.c.r2 ((Mod.refl _ _).drew) (fun _ _ => id); rintro e w6 ⟨u, rfl, hm6, hr6⟩; obtain ⟨a6, n6, c6, rfl⟩ := hr6.shape; have hm6' : Mod NoB Wa w6 := ((Mod.refl _ _).drew).trans hm6 (fun _ _ h => h); obtain ⟨vb, v0, v1, v2, v3, v4, v5, vf⟩ := (HV.out.quiet hm6').o.box.facts))
    all_goals (have HM6 := Lib.hid hm6'; have HR6 := Lib.hid hr6; clear hm6 hm6' hr6; go_wp2_with fail; go_meet; exact ⟨a6, n6, c6, HV.out.other (mm' := m.commit fs) HM6.out HR6.out rfl, (HD.out.quiet HM6.out).aside (putBox_mod _ _ _ _ _) HDO.out, (HA.out.quiet HM6.out).aside (putBox_mod _ _ _ _ _) HAO.out⟩)
  case rest =>
    obtain ⟨q3, n3, c3, HV6, HD6, HA6⟩ := hcut
    obtain ⟨zb, z0, z1, z2, z3, z4, z5, z6, zf⟩ := Act4.facts HA6.out.cells
    clear HV HD HA d0 d1 d2 d3 d4 d5 d6 df db x0 x1 x2 x3 x4 x5 xf xb HMC
    rcases HFC.out with hrep | hrep
    · have hcc := HCC.out wc _ _ _ HV6.out
      rw [hrep] at hcc
      have HC1 := Lib.hid hcc
      clear hcc HCC hrep HFC
      go_wp2_with fail
      refine (HFW.out _).mono ?_
      rintro e w' ⟨rfl, rfl⟩
      go_wp2_with fail
      refine HC1.out.mono ?_
      rintro e w7 ⟨rfl, hm7, hl7, hd7⟩
      have HV7 := Lib.hid (HV6.out.both hm7 hl7 hd7)
      have HD7 := Lib.hid (HD6.out.both hm7)
      obtain ⟨xb, x0, x1, x2, x3, x4, x5, xf⟩ := HV7.out.c.box.facts
      obtain ⟨yb, y0, y1, y2, y3, y4, y5, yf⟩ := HV7.out.o.box.facts
      clear hm7 hl7 hd7 HC1 HV6 HD6 HA6 z0 z1 z2 z3 z4 z5 z6 zf zb
      go_wp2_with fail
      first | (refine hK _ _ _ _ _ _ _ _ _ _ _ _ _ _ _ _ _ _ _ _ _ _ _ _ _ _ _ _ _ _ _ _ _ _ _ _ _ _ _ _ _ _ _ _ _ _ _ _ _ _ _ _ _ _ _ _ _ _ _ _ _ _ _ _ _ _ _ _ _ _ _ _ _ ?_) | skip
      exact ⟨_, _, _, _, _, _, _, _, _, _, _, _, _, HV7.out.told, HD7.out.aside (putBox_mod _ _ _ _ _) HDC.out, .inl ⟨rfl, rfl, HPC.out⟩⟩
    · have hcc := HCC.out wc _ _ _ HV6.out
      rw [hrep] at hcc
      have HC1 := Lib.hid hcc
      have HIP : Hid (IP (n + 1) { g with wait := [] } m c o none none true) := .inr ⟨rfl, rfl, Nat.zero_le _, HP.out.dropped⟩
      clear hcc HCC hrep HFC
      go_wp2_with fail
      refine (HFW.out _).mono ?_
      rintro e w' ⟨rfl, rfl⟩
      go_wp2_with fail
      refine HC1.out.mono ?_
      rintro e w7 ⟨rfl, hm7, hl7, hd7⟩
      have HV7 := Lib.hid (HV6.out.both hm7 hl7 hd7)
      have HD7 := Lib.hid (HD6.out.both hm7)
      clear hm7 hl7 hd7 HC1 HV6 HD6 HA6 z0 z1 z2 z3 z4 z5 z6 zf zb
      go_wp2_with fail
      first | (refine hK _ _ _ _ _ _ _ _ _ _ _ _ _ _ _ _ _ _ _ _ _ _ _ _ _ _ _ _ _ _ _ _ _ _ _ _ _ _ _ _ _ _ _ _ _ _ _ _ _ _ _ _ _ _ _ _ _ _ _ _ _ _ _ _ _ _ _ _ _ _ _ _ _ ?_) | skip
      exact ⟨_, _, _, _, _, _, _, _, _, _, _, _, _, HV7.out, HD7.out, HIP.out⟩

end Go.Proofs.Ytgofngilfdnakaa
