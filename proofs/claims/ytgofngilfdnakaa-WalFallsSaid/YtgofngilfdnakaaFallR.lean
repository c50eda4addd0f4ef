/-
  This text proves what a step that lays all anew does in cupellaw04.WalFalls: under bounds that every argument keeps.
-/
import Derived.Test.YtgofngilfdnakaaFallV
namespace Go.Proofs.Ytgofngilfdnakaa
open Go Go.RowKit
attribute [local go_sem] over_cell over_frozen lt_over le_over noB loudUpon ByteArray.mk_append_mk ByteArray.extract_mk drop_full

set_option maxRecDepth 100000 in
set_option maxHeartbeats 12800000 in
theorem fall_r (w Wa : World) (S : Nat → Prop) (p l C O D A n c : Nat) (o : Option Str) (fl : Option Fall) (g : Lg) (m mm : Md) (fc : Array Value) (a1 a2 b1 b2 al : Option Addr) (n1 c1 n2 c2 m1 e1 m2 e2 nl cl : Nat) (nn f0 f1 f2 : Int) (ss : Str)
    (hv : FO w Wa S p l C O (.slice a1 n1 c1) (.slice a2 n2 c2) (.slice b1 m1 e1) (.slice b2 m2 e2) (fd c o none fl false) g m mm) (hd : KB Wa S l D fc 56) (ha : KB Wa S l A #[.int .i64 7, .int .i64 nn, .string ⟨ss.toArray⟩, .slice al nl cl, .int .i64 f0, .int .i64 f1, .int .i64 f2] 64)
    (hp : PP n g m c o) (hn : n ≤ 400) (hss : ss.length ≤ 9223372036854775807) (lss : List Str) (hst : StrsIn w (.slice al nl cl) lss) (hsl : ∀ s ∈ lss, s.length ≤ 9223372036854775807)
    (u0 u1 u2 u3 u4 u7 u8 u11 u12 u13 u15 u16 u17 u18 u19 u20 u21 u22 u23 u24 u25 u26 u27 u28 u29 u30 u31 u32 u33 u34 u35 u36 u37 u38 u39 u40 u41 u42 u43 u44 u45 u46 u47 u48 u49 u50 u51 u52 u53 u54 u55 u56 u57 u58 u59 u60 u61 u62 u63 u64 u65 u66 u67 u68 u69 u70 u71 u72 u73 u74 u75 u76 u77 u78 u79 u80 u81 u82 u83 u84 u85 u86 u87 u88 u89 u90 u91 u92 u93 u94 u95 u96 u97 u98 u99 u100 u101 u102 u103 u104 u105 u106 u107 u108 u109 u110 u111 u112 u113 u114 u115 u116 u117 u118 u119 u120 u121 u122 u123 u124 u125 u126 u127 u128 u129 u130 u131 u132 u133 u134 u135 u136 u137 u138 u139 u140 u141 u142 u143 u144 u145 u146 u147 u148 u149 u150 u151 u152 u153 u154 u155 u156 u157 u158 u159 u160 u161 u162 u163 u164 u165 u166 u167 u168 u169 u170 u171 u172 u173 u174 u175 u176 u177 u178 u179 u180 u181 u182 u183 u184 u185 u186 u187 u188 u189 u190 u191 : Value) (K : Act → World → Prop) (Q' : Exit → Act → World → Prop)
    (hK : ∀ (z15 z16 z81 z82 z83 z84 z85 z86 z87 z88 z89 z90 z91 z92 z93 z94 z95 z96 z97 z98 z99 z100 z101 z102 z103 z104 z105 z106 z107 z108 z109 z110 z111 z112 z113 z114 z115 z116 z117 z118 z119 z120 z121 z122 z123 z124 z125 z126 z127 z128 z129 z130 z131 z132 z133 z134 z135 z136 z137 z138 z139 z140 z141 z142 z143 z144 z145 z146 z147 z148 z149 z150 : Value) (wx : World), Hid (∃ S v1 v2 x1 x2 g m mm c o x fl dn, FO w wx S p l C O v1 v2 x1 x2 (fd c o x fl dn) g m mm ∧ KB wx S l D fc 56 ∧ IP (n + 1) g m c o x fl dn) → K ⟨#[u0, u1, u2, u3, u4, .pointer (some ⟨p, 0, none⟩), .pointer (some ⟨l, 0, none⟩), u7, u8, .pointer (some ⟨C, 0, none⟩), .pointer (some ⟨O, 0, none⟩), u11, u12, u13, .pointer (some ⟨A, 0, none⟩), z15, z16, u17, u18, u19, u20, u21, u22, u23, u24, u25, u26, u27, u28, u29, u30, u31, u32, u33, u34, u35, u36, u37, u38, u39, u40, u41, u42, u43, u44, u45, u46, u47, u48, u49, u50, u51, u52, u53, u54, u55, u56, u57, u58, u59, u60, u61, u62, u63, u64, u65, u66, u67, u68, u69, u70, u71, u72, u73, u74, u75, u76, u77, u78, u79, u80, z81, z82, z83, z84, z85, z86, z87, z88, z89, z90, z91, z92, z93, z94, z95, z96, z97, z98, z99, z100, z101, z102, z103, z104, z105, z106, z107, z108, z109, z110, z111, z112, z113, z114, z115, z116, z117, z118, z119, z120, z121, z122, z123, z124, z125, z126, z127, z128, z129, z130, z131, z132, z133, z134, z135, z136, z137, z138, z139, z140, z141, z142, z143, z144, z145, z146, z147, z148, z149, z150, u151, u152, u153, u154, u155, u156, u157, u158, u159, u160, u161, u162, u163, u164, u165, u166, u167, u168, u169, u170, u171, u172, u173, u174, u175, u176, u177, u178, u179, u180, u181, u182, u183, u184, u185, u186, u187, u188, u189, u190, u191], []⟩ wx) :
    Code.wp Try.prog blk4 (Exit.then K (loudQ Q')) ⟨#[u0, u1, u2, u3, u4, .pointer (some ⟨p, 0, none⟩), .pointer (some ⟨l, 0, none⟩), u7, u8, .pointer (some ⟨C, 0, none⟩), .pointer (some ⟨O, 0, none⟩), u11, u12, u13, .pointer (some ⟨A, 0, none⟩), u15, u16, u17, u18, u19, u20, u21, u22, u23, u24, u25, u26, u27, u28, u29, u30, u31, u32, u33, u34, u35, u36, u37, u38, u39, u40, u41, u42, u43, u44, u45, u46, u47, u48, u49, u50, u51, u52, u53, u54, u55, u56, u57, u58, u59, u60, u61, u62, u63, u64, u65, u66, u67, u68, u69, u70, u71, u72, u73, u74, u75, u76, u77, u78, u79, u80, u81, u82, u83, u84, u85, u86, u87, u88, u89, u90, u91, u92, u93, u94, u95, u96, u97, u98, u99, u100, u101, u102, u103, u104, u105, u106, u107, u108, u109, u110, u111, u112, u113, u114, u115, u116, u117, u118, u119, u120, u121, u122, u123, u124, u125, u126, u127, u128, u129, u130, u131, u132, u133, u134, u135, u136, u137, u138, u139, u140, u141, u142, u143, u144, u145, u146, u147, u148, u149, u150, u151, u152, u153, u154, u155, u156, u157, u158, u159, u160, u161, u162, u163, u164, u165, u166, u167, u168, u169, u170, u171, u172, u173, u174, u175, u176, u177, u178, u179, u180, u181, u182, u183, u184, u185, u186, u187, u188, u189, u190, u191], []⟩ Wa := by
  have HV := Lib.hid hv
  have HD := Lib.hid hd
  have HA := Lib.hid ha
  have HP := Lib.hid hp
  have HDC : Hid (D ≠ C) := box_type hd.cells hv.c.box (by decide)
  have HDO : Hid (D ≠ O) := box_type hd.cells hv.o.box (by decide)
  have HAC : Hid (A ≠ C) := box_type ha.cells hv.c.box (by decide)
  have HAO : Hid (A ≠ O) := box_type ha.cells hv.o.box (by decide)
  clear hv hd ha hp
  conv => arg 2; whnf
  obtain ⟨db, d0, d1, d2, d3, d4, d5, d6, df⟩ := Act4.facts HA.out.cells
  obtain ⟨xb, x0, x1, x2, x3, x4, x5, xf⟩ := HV.out.c.box.facts
  have hk0 := HP.out.size
  have hk1 := HP.out.chs
  have hk2 := HP.out.mks
  have hk3 := HP.out.cnt
  have hk4 := HP.out.holds.long
  have hk5 := HP.out.holds.more
  have hk6 := HP.out.holds.marks
  have hfs := few_length ss
  have HFW := Lib.hid (fun X => few4_calls ss X hss)
  generalize few ss = fs at *
  have hrl : ∀ x ∈ cut lss, x.length ≤ 300 := fun x hx => by obtain ⟨y, _, rfl⟩ := List.mem_map.1 hx; exact few_length y
  have hrn : (cut lss).length ≤ 6 := by simp only [cut, List.length_map, List.length_take]; omega
  have HCUT : Hid (∀ X, Mod NoB w X → Calls Try.prog 18 #[.slice al nl cl] X fun e w' => ∃ v', e = .returned v' ∧ Mod NoB X w' ∧ StrsIn w' v' (cut lss)) := fun X hm => (cut_calls _ lss X (hst.mod hm) hsl).mono fun e w' ⟨v', h1, h2, h3⟩ => ⟨v', h1, h2, owns_strs h3⟩
  generalize cut lss = rs at *
  have hfit : Fit (fd c o none fl false) 400000 := fd_fit (by have := HP.out.file; rw [this]; simp only [Option.getD_none, List.length_nil]; omega) (by omega)
  have HRC : Hid (∀ X vc mx y1 y2, FO w X S p l C O (.slice a1 n1 c1) (.slice a2 n2 c2) y1 y2 (fd c o none fl false) g m mx → StrsIn X vc rs → Calls Try.prog 42 #[.pointer (some ⟨l, 0, none⟩), vc, .string ⟨fs.toArray⟩] X fun e w' => e = .returned (.int .i64 (g.replace (fd c o none fl false) rs fs).1) ∧ LS X w' S p l (g.replace (fd c o none fl false) rs fs).2.2 (g.replace (fd c o none fl false) rs fs).2.1) := fun X vc mx y1 y2 hv hi =>
    Replace_calls l p S (fd c o none fl false) g vc rs fs 400000 X hv.c.ld.log hv.c.ld.disk hv.c.ld.sl hfit hi (by omega) (fun s hs => by have := hrl s hs; omega) (by omega) (by omega)
  have HPR := Lib.hid (HP.out.relaid hrl hrn hfs)
  have HRL := Lib.hid hrl
  have HST := Lib.hid hst
  clear hrl hfit hst hsl hk0 hk1 hk2 hk3 hk4 hk5 hk6 x0 x1 x2 x3 x4 x5 xf xb
  go_upto_region 23 with fail
  go_cut [] from 81 to 150 (fun wx => ∃ q3 n3 c3, Hid (FO w wx S p l C O (.slice a1 n1 c1) (.slice a2 n2 c2) (.slice q3 n3 c3) (.slice none 0 0) (fd c o none fl false) g m (Md.laid rs fs)) ∧ Hid (KB wx S l D fc 56) ∧ Hid (KB wx S l A #[.int .i64 7, .int .i64 nn, .string ⟨ss.toArray⟩, .slice al nl cl, .int .i64 f0, .int .i64 f1, .int .i64 f2] 64))
  case first =>
    go_region_with (first
      | (go_at_call 18; refine (HCUT.out _ ?_).mono ?_; exact HV.out.c.ld.mod.trans ((Mod.refl _ _).drew) (fun _ _ h => h); rintro e w7 ⟨vc, rfl, hm7, hi7⟩; have hm7' : Mod NoB Wa w7 := ((Mod.refl _ _).drew).trans hm7 (fun _ _ h => h); have hda7 := (hm7'.block A db id).trans HA.out.cells; obtain ⟨yb, y0, y1, y2, y3, y4, y5, y6, yf⟩ := Act4.facts hda7)
      | (go_at_call 19; refine (HFW.out _).mono ?_; rintro e w' ⟨rfl, rfl⟩)
      | (go_at_call 17; refine (replaced_calls _ rs fs _ hi7 ?_ ?_ ?_).mono ?_; omega; exact (fun s hs => by have := HRL.out s hs; omega); omega; rintro e w8 ⟨u, rfl, hm8, hr8⟩; obtain ⟨a8, n8, c8, rfl⟩ := hr8.shape; have hm8' : Mod NoB Wa w8 := hm7'.trans hm8 (fun _ _ h => h); obtain ⟨xb, x0, x1, x2, x3, x4, x5, xf⟩ := (HV.out.quiet hm8').o.box.facts))
    all_goals (have HM8 := Lib.hid hm8'; have HR8 := Lib.hid (ownsRow_base hr8 hm7'.size); clear hm7 hm7' hm8 hm8' hr8 hi7 hda7; go_wp2_with fail; go_meet; exact ⟨a8, n8, c8, HV.out.other (mm' := Md.laid rs fs) HM8.out HR8.out rfl, (HD.out.quiet HM8.out).aside (putBox_mod _ _ _ _ _) HDO.out, (HA.out.quiet HM8.out).aside (putBox_mod _ _ _ _ _) HAO.out⟩)
  case rest =>
    obtain ⟨q3, n3, c3, HV6, HD6, HA6⟩ := hcut
    obtain ⟨zb, z0, z1, z2, z3, z4, z5, z6, zf⟩ := Act4.facts HA6.out.cells
    clear HV HD HA d0 d1 d2 d3 d4 d5 d6 df db
    have hlen : (laidText rs fs).length ≤ 3000 := laid_short (fun y hy => HRL.out y hy) hrn hfs
    have HLEN := Lib.hid hlen
    clear hlen
    rcases fd_replace c o fl g rs fs with hrep | ⟨c', x', hc0, hc1, hx', hrep⟩
    · have HRP : Hid (∀ X vc mx y1 y2, FO w X S p l C O (.slice a1 n1 c1) (.slice a2 n2 c2) y1 y2 (fd c o none fl false) g m mx → StrsIn X vc rs → Calls Try.prog 42 #[.pointer (some ⟨l, 0, none⟩), vc, .string ⟨fs.toArray⟩] X fun e w' => e = .returned (.int .i64 0) ∧ LS X w' S p l (fd (c + 2) (some (laidText rs fs)) none fl false) ⟨laidText rs fs, [], fs, 1⟩) := fun X vc mx y1 y2 hv hi => by
        have := HRC.out X vc mx y1 y2 hv hi
        rw [hrep] at this
        exact this
      clear HRC hrep
      go_upto_region 24 with fail
      go_cut [128] from 81 to 150 (fun bv wx => bv = .bool true ∧ ∃ S6, Hid (FO w wx S6 p l C O (.slice a1 n1 c1) (.slice a2 n2 c2) (.slice q3 n3 c3) (.slice none 0 0) (fd (c + 2) (some (laidText rs fs)) none fl false) ⟨laidText rs fs, [], fs, 1⟩ m (Md.laid rs fs)) ∧ Hid (KB wx S6 l D fc 56))
      case first =>
        go_region_with (first
          | (go_at_call 18; refine (HCUT.out _ ?_).mono ?_; exact HV6.out.c.ld.mod.trans ((Mod.refl _ _).drew) (fun _ _ h => h); rintro e w5 ⟨vc, rfl, hm5, hi5⟩; have hm5' : Mod NoB wc w5 := ((Mod.refl _ _).drew).trans hm5 (fun _ _ h => h); have hv5 := HV6.out.quiet hm5'; have hda5 := (hm5'.block A zb id).trans HA6.out.cells; obtain ⟨tb, t0, t1, t2, t3, t4, t5, t6, tf⟩ := Act4.facts hda5)
          | (go_at_call 19; refine (HFW.out _).mono ?_; rintro e w' ⟨rfl, rfl⟩)
          | (go_at_call 42; refine (HRP.out _ _ _ _ _ hv5 hi5).mono ?_; rintro e w6 ⟨rfl, hls⟩))
        all_goals (have hv6 := hv5.both hls.mod hls.log hls.disk; have hd6 := (HD6.out.quiet hm5').both hls.mod; have HV7 := Lib.hid hv6; have HD7 := Lib.hid hd6; clear hv6 hd6 hls; go_wp2_with fail; go_meet; exact ⟨rfl, _, HV7, HD7⟩)
      case rest =>
        obtain ⟨rfl, S6, HV7, HD7⟩ := hcut
        obtain ⟨xb, x0, x1, x2, x3, x4, x5, xf⟩ := HV7.out.c.box.facts
        obtain ⟨yb, y0, y1, y2, y3, y4, y5, yf⟩ := HV7.out.o.box.facts
        clear HV6 HD6 HA6 HRP z0 z1 z2 z3 z4 z5 z6 zf zb
        go_wp2_with fail
        first | (refine hK _ _ _ _ _ _ _ _ _ _ _ _ _ _ _ _ _ _ _ _ _ _ _ _ _ _ _ _ _ _ _ _ _ _ _ _ _ _ _ _ _ _ _ _ _ _ _ _ _ _ _ _ _ _ _ _ _ _ _ _ _ _ _ _ _ _ _ _ _ _ _ _ _ ?_) | skip
        exact ⟨_, _, _, _, _, _, _, _, _, _, _, _, _, HV7.out.told, HD7.out.aside (putBox_mod _ _ _ _ _) HDC.out, .inl ⟨rfl, rfl, HPR.out⟩⟩
    · have HRP : Hid (∀ X vc mx y1 y2, FO w X S p l C O (.slice a1 n1 c1) (.slice a2 n2 c2) y1 y2 (fd c o none fl false) g m mx → StrsIn X vc rs → Calls Try.prog 42 #[.pointer (some ⟨l, 0, none⟩), vc, .string ⟨fs.toArray⟩] X fun e w' => e = .returned (.int .i64 7) ∧ LS X w' S p l (fd c' o x' none true) { g with wait := [] }) := fun X vc mx y1 y2 hv hi => by
        have := HRC.out X vc mx y1 y2 hv hi
        rw [hrep] at this
        exact this
      have HIP : Hid (IP (n + 1) { g with wait := [] } m c' o x' none true) := .inr ⟨rfl, rfl, by rcases hx' with rfl | rfl; exact Nat.zero_le _; exact HLEN.out, PP.later HP.out.dropped (Nat.le_refl _) (by have := HP.out.chs; omega)⟩
      clear HRC hrep hc0 hc1 hx'
      go_upto_region 24 with fail
      go_cut [128] from 81 to 150 (fun bv wx => bv = .bool false ∧ ∃ S6, Hid (FO w wx S6 p l C O (.slice a1 n1 c1) (.slice a2 n2 c2) (.slice q3 n3 c3) (.slice none 0 0) (fd c' o x' none true) { g with wait := [] } m (Md.laid rs fs)) ∧ Hid (KB wx S6 l D fc 56))
      case first =>
        go_region_with (first
          | (go_at_call 18; refine (HCUT.out _ ?_).mono ?_; exact HV6.out.c.ld.mod.trans ((Mod.refl _ _).drew) (fun _ _ h => h); rintro e w5 ⟨vc, rfl, hm5, hi5⟩; have hm5' : Mod NoB wc w5 := ((Mod.refl _ _).drew).trans hm5 (fun _ _ h => h); have hv5 := HV6.out.quiet hm5'; have hda5 := (hm5'.block A zb id).trans HA6.out.cells; obtain ⟨tb, t0, t1, t2, t3, t4, t5, t6, tf⟩ := Act4.facts hda5)
          | (go_at_call 19; refine (HFW.out _).mono ?_; rintro e w' ⟨rfl, rfl⟩)
          | (go_at_call 42; refine (HRP.out _ _ _ _ _ hv5 hi5).mono ?_; rintro e w6 ⟨rfl, hls⟩))
        all_goals (have hv6 := hv5.both hls.mod hls.log hls.disk; have hd6 := (HD6.out.quiet hm5').both hls.mod; have HV7 := Lib.hid hv6; have HD7 := Lib.hid hd6; clear hv6 hd6 hls; go_wp2_with fail; go_meet; exact ⟨rfl, _, HV7, HD7⟩)
      case rest =>
        obtain ⟨rfl, S6, HV7, HD7⟩ := hcut
        clear HV6 HD6 HA6 HRP z0 z1 z2 z3 z4 z5 z6 zf zb
        go_wp2_with fail
        first | (refine hK _ _ _ _ _ _ _ _ _ _ _ _ _ _ _ _ _ _ _ _ _ _ _ _ _ _ _ _ _ _ _ _ _ _ _ _ _ _ _ _ _ _ _ _ _ _ _ _ _ _ _ _ _ _ _ _ _ _ _ _ _ _ _ _ _ _ _ _ _ _ _ _ _ ?_) | skip
        exact ⟨_, _, _, _, _, _, _, _, _, _, _, _, _, HV7.out, HD7.out, HIP.out⟩

end Go.Proofs.Ytgofngilfdnakaa
