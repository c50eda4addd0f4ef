/-
  This text proves what a step of kind 7 does in cupellaw04.WalPlays: under bounds that every argument keeps.
-/
import Derived.Test.YtgofngilfdnakaaWalYc
namespace Go.Proofs.Ytgofngilfdnakaa
open Go Go.RowKit
attribute [local go_sem] over_cell over_frozen lt_over le_over noB loudUpon ByteArray.mk_append_mk ByteArray.extract_mk drop_full

set_option maxRecDepth 100000 in
set_option maxHeartbeats 12800000 in
theorem play_k7 (w Wa : World) (S : Nat → Prop) (p l C D k c : Nat) (o : Option Str) (g : Lg) (m : Md) (a1 a2 al : Option Addr) (n1 c1 n2 c2 nl cl : Nat) (nn f0 f1 f2 : Int) (ss : Str) (lss : List Str)
    (hva : PV w Wa S p l C (.slice a1 n1 c1) (.slice a2 n2 c2) (pd c o) g m) (hda : Wa.heap[D]? = some (.cells #[.int .i64 7, .int .i64 nn, .string ⟨ss.toArray⟩, .slice al nl cl, .int .i64 f0, .int .i64 f1, .int .i64 f2] 64 (0, 0)))
    (hdf : ¬ S D ∧ D ≠ l ∧ D ≠ C) (hp : PP k g m c o) (hlt50 : k < 50) (hst : StrsIn w (.slice al nl cl) lss) (hsl : ∀ s ∈ lss, s.length ≤ 9223372036854775807) (hss : ss.length ≤ 9223372036854775807) (_hn0 : -9223372036854775808 ≤ nn) (_hn1 : nn ≤ 9223372036854775807)
    (u0 u1 u2 u5 u6 u8 u10 u11 u12 u13 u14 u15 u16 u17 u18 u19 u20 u21 u22 u23 u24 u25 u26 u27 u28 u29 u30 u31 u32 u33 u34 u35 u36 u37 u38 u39 u40 u41 u42 u43 u44 u45 u46 u47 u48 u49 u50 u52 u53 u54 u55 u56 u57 u58 u59 u60 u61 u62 u63 u64 u65 u66 u67 u68 u69 u70 u71 u72 u73 u74 u75 u76 u77 u78 u79 u80 u81 u82 u83 u84 u85 u86 u87 u88 u89 u90 u91 u92 u93 u94 u95 u96 u97 u98 u99 u100 u101 u102 u103 u104 u105 u106 u107 u108 u109 u110 u111 u112 u113 u114 u115 u116 u117 u118 u119 u120 u121 u122 u123 u124 u125 u126 u127 u128 u129 u130 u131 u132 u133 u134 u135 u136 u137 u138 u139 u140 u141 u142 u143 u144 u145 u146 u147 u148 u149 u150 u151 u152 u153 u154 u155 u156 u157 u158 u159 u160 u161 u162 u163 u164 u165 u166 u167 u168 u169 u170 u171 u172 u173 u174 u175 u176 u177 u178 u179 u180 u181 u182 u183 u184 u185 u186 u187 u188 u189 u190 u191 u192 u193 u194 u195 u196 u197 u198 u199 u200 u201 u202 u203 u204 u205 u206 u207 u208 u209 u210 u211 u212 u213 u214 u215 u216 u217 u218 u219 u220 u221 u222 u223 u224 u225 u226 u227 u228 : Value) (K : Act → World → Prop) (Q' : Exit → Act → World → Prop)
    (hK : ∀ (z4 z5 z6 z10 z11 z12 z13 z14 z15 z16 z17 z52 z53 z54 z55 z56 z57 z58 z59 z60 z61 z62 z63 z64 z65 z66 z67 z68 z69 z70 z71 z72 z73 z74 z75 z76 z77 z78 z79 z80 z81 z82 z83 z84 z85 z86 z87 z88 z89 z90 z91 z92 z93 z94 z95 z96 z97 z98 z99 z100 z101 z102 z103 z104 z105 z106 z107 z108 z109 z110 z111 z112 z113 z114 z115 z116 z117 z118 z119 z120 z121 z122 z123 z124 z125 z126 z127 z128 z129 z130 z131 z132 z133 z134 z135 z136 z137 z138 z139 z140 z141 z142 z143 z144 z145 z146 z147 z148 z149 z150 z151 z152 z153 z154 z155 z156 z157 z158 z159 z160 z161 z162 z163 z164 z165 z166 z167 z168 z169 z170 z171 z172 z173 z174 z175 z176 z177 z178 z179 z180 z181 z182 z183 z184 z185 z186 z187 z188 z189 z190 z191 z192 z193 z194 z195 z196 z197 z198 z199 z200 z201 z202 z203 z204 z205 z206 z207 z208 z209 z210 z211 z212 z213 z214 z215 z216 z217 z218 z219 z220 z221 z222 z223 z224 : Value) (wx : World), (∃ l2 : Nat, z4 = .pointer (some ⟨l2, 0, none⟩) ∧ Hid (∃ S v1 v2 g m c o, PV w wx S p l2 C v1 v2 (pd c o) g m ∧ PP (k + 1) g m c o)) → K ⟨#[u0, u1, u2, .pointer (some ⟨p, 0, none⟩), z4, z5, z6, .pointer (some ⟨C, 0, none⟩), u8, .pointer (some ⟨D, 0, none⟩), z10, z11, z12, z13, z14, z15, z16, z17, u18, u19, u20, u21, u22, u23, u24, u25, u26, u27, u28, u29, u30, u31, u32, u33, u34, u35, u36, u37, u38, u39, u40, u41, u42, u43, u44, u45, u46, u47, u48, u49, u50, .int .i64 7, z52, z53, z54, z55, z56, z57, z58, z59, z60, z61, z62, z63, z64, z65, z66, z67, z68, z69, z70, z71, z72, z73, z74, z75, z76, z77, z78, z79, z80, z81, z82, z83, z84, z85, z86, z87, z88, z89, z90, z91, z92, z93, z94, z95, z96, z97, z98, z99, z100, z101, z102, z103, z104, z105, z106, z107, z108, z109, z110, z111, z112, z113, z114, z115, z116, z117, z118, z119, z120, z121, z122, z123, z124, z125, z126, z127, z128, z129, z130, z131, z132, z133, z134, z135, z136, z137, z138, z139, z140, z141, z142, z143, z144, z145, z146, z147, z148, z149, z150, z151, z152, z153, z154, z155, z156, z157, z158, z159, z160, z161, z162, z163, z164, z165, z166, z167, z168, z169, z170, z171, z172, z173, z174, z175, z176, z177, z178, z179, z180, z181, z182, z183, z184, z185, z186, z187, z188, z189, z190, z191, z192, z193, z194, z195, z196, z197, z198, z199, z200, z201, z202, z203, z204, z205, z206, z207, z208, z209, z210, z211, z212, z213, z214, z215, z216, z217, z218, z219, z220, z221, z222, z223, z224, u225, u226, u227, u228], []⟩ wx) :
    Code.wp Try.prog blk2 (Exit.then K (loudQ Q')) ⟨#[u0, u1, u2, .pointer (some ⟨p, 0, none⟩), .pointer (some ⟨l, 0, none⟩), u5, u6, .pointer (some ⟨C, 0, none⟩), u8, .pointer (some ⟨D, 0, none⟩), u10, u11, u12, u13, u14, u15, u16, u17, u18, u19, u20, u21, u22, u23, u24, u25, u26, u27, u28, u29, u30, u31, u32, u33, u34, u35, u36, u37, u38, u39, u40, u41, u42, u43, u44, u45, u46, u47, u48, u49, u50, .int .i64 7, u52, u53, u54, u55, u56, u57, u58, u59, u60, u61, u62, u63, u64, u65, u66, u67, u68, u69, u70, u71, u72, u73, u74, u75, u76, u77, u78, u79, u80, u81, u82, u83, u84, u85, u86, u87, u88, u89, u90, u91, u92, u93, u94, u95, u96, u97, u98, u99, u100, u101, u102, u103, u104, u105, u106, u107, u108, u109, u110, u111, u112, u113, u114, u115, u116, u117, u118, u119, u120, u121, u122, u123, u124, u125, u126, u127, u128, u129, u130, u131, u132, u133, u134, u135, u136, u137, u138, u139, u140, u141, u142, u143, u144, u145, u146, u147, u148, u149, u150, u151, u152, u153, u154, u155, u156, u157, u158, u159, u160, u161, u162, u163, u164, u165, u166, u167, u168, u169, u170, u171, u172, u173, u174, u175, u176, u177, u178, u179, u180, u181, u182, u183, u184, u185, u186, u187, u188, u189, u190, u191, u192, u193, u194, u195, u196, u197, u198, u199, u200, u201, u202, u203, u204, u205, u206, u207, u208, u209, u210, u211, u212, u213, u214, u215, u216, u217, u218, u219, u220, u221, u222, u223, u224, u225, u226, u227, u228], []⟩ Wa := by
  have HVA := Lib.hid hva
  have HDA := Lib.hid hda
  have HDF := Lib.hid hdf
  have HP := Lib.hid hp
  have HST := Lib.hid hst
  have HSL := Lib.hid hsl
  clear hva hda hdf hp hst hsl
  conv => arg 2; whnf
  obtain ⟨db, d0, d1, d2, d3, d4, d5, d6, df⟩ := Act4.facts HDA.out
  obtain ⟨xb, x0, x1, x2, x3, x4, x5, xf⟩ := HVA.out.box.facts
  have hk0 := HP.out.size
  have hk1 := HP.out.chs
  have hk2 := HP.out.mks
  have hk3 := HP.out.cnt
  have hk4 := HP.out.holds.long
  have hk5 := HP.out.holds.more
  have hk6 := HP.out.holds.marks
  have hfs := few_length ss
  have HFW := Lib.hid (fun X => few4_calls ss X hss)
  generalize few ss = fs at *
  have hrl : ∀ x ∈ cut lss, x.length ≤ 300 := fun x hx => by obtain ⟨y, _, rfl⟩ := List.mem_map.1 hx; exact few_length y
  have hrn : (cut lss).length ≤ 6 := by simp only [cut, List.length_map, List.length_take]; omega
  have HCUT : Hid (∀ X, Mod NoB w X → Calls Try.prog 18 #[.slice al nl cl] X fun e w' => ∃ v', e = .returned v' ∧ Mod NoB X w' ∧ StrsIn w' v' (cut lss)) := fun X hm => (cut_calls _ lss X (HST.out.mod hm) HSL.out).mono fun e w' ⟨v', h1, h2, h3⟩ => ⟨v', h1, h2, owns_strs h3⟩
  generalize cut lss = rs at *
  have hrp : ∀ X vc, PV w X S p l C (.slice a1 n1 c1) (.slice a2 n2 c2) (pd c o) g m → StrsIn X vc rs → Calls Try.prog 42 #[.pointer (some ⟨l, 0, none⟩), vc, .string ⟨fs.toArray⟩] X fun e w' => e = .returned (.int .i64 0) ∧ LS X w' S p l (pd (c + 2) (some (laidText rs fs))) ⟨laidText rs fs, [], fs, 1⟩ := fun X vc hv hi => by
    have := Replace_calls l p S (pd c o) g vc rs fs 100000 X hv.ld.log hv.ld.disk hv.ld.sl (pd_fit (by have := HP.out.file; rw [this]; omega) (by omega)) hi (by omega) (fun s hs => by have := hrl s hs; omega) (by omega) (by omega)
    rw [pd_replace] at this
    exact this
  have HRP := Lib.hid hrp
  have HPR := Lib.hid (HP.out.relaid hrl hrn hfs)
  have HRL := Lib.hid hrl
  clear hrp hrl hk0 hk1 hk2 hk3 hk4 hk5 hk6
  go_upto_region 34 with fail
  go_cut [153] from 52 to 224 (fun bv wx => bv = .bool false ∧ ∃ S6, PV w wx S6 p l C (.slice a1 n1 c1) (.slice a2 n2 c2) (pd (c + 2) (some (laidText rs fs))) ⟨laidText rs fs, [], fs, 1⟩ m ∧ wx.heap[D]? = some (.cells #[.int .i64 7, .int .i64 nn, .string ⟨ss.toArray⟩, .slice al nl cl, .int .i64 f0, .int .i64 f1, .int .i64 f2] 64 (0, 0)))
  case first =>
    go_region_with (first
      | (go_at_call 18; refine (HCUT.out _ ?_).mono ?_; exact HVA.out.ld.mod.trans ((Mod.refl _ _).drew) (fun _ _ h => h); rintro e w5 ⟨vc, rfl, hm5, hi5⟩; have hm5' : Mod NoB Wa w5 := ((Mod.refl _ _).drew).trans hm5 (fun _ _ h => h); have hv5 := HVA.out.quiet hm5'; have hda5 := (hm5'.block D db id).trans HDA.out; obtain ⟨zb, z0, z1, z2, z3, z4, z5, z6, zf⟩ := Act4.facts hda5)
      | (go_at_call 19; refine (HFW.out _).mono ?_; rintro e w' ⟨rfl, rfl⟩)
      | (go_at_call 42; refine (HRP.out _ _ hv5 hi5).mono ?_; rintro e w6 ⟨rfl, hls⟩))
    all_goals (have hv6 := hv5.both hls.mod hls.log hls.disk; have hda6 := (hls.mod.block D zb (fun e => by rcases e with e | e; exact HDF.out.1 e; exact HDF.out.2.1 e)).trans hda5; have HV6 := Lib.hid hv6; have HD6 := Lib.hid hda6; clear hv6 hda6 hls; go_wp2_with fail; go_meet; exact ⟨rfl, _, HV6.out, HD6.out⟩)
  case rest =>
    obtain ⟨rfl, S6, hv6, hda6⟩ := hcut
    have HV6 := Lib.hid hv6
    have HD6 := Lib.hid hda6
    obtain ⟨zb, z0, z1, z2, z3, z4, z5, z6, zf⟩ := Act4.facts hda6
    clear hv6 hda6 HVA HDA HRP x0 x1 x2 x3 x4 x5 xf xb d0 d1 d2 d3 d4 d5 d6 df db
    go_upto_region 36 with fail
    go_region_with (first
      | (go_at_call 18; refine (HCUT.out _ ?_).mono ?_; exact HV6.out.ld.mod.trans ((Mod.refl _ _).drew) (fun _ _ h => h); rintro e w7 ⟨vc, rfl, hm7, hi7⟩; have hm7' : Mod NoB wc w7 := ((Mod.refl _ _).drew).trans hm7 (fun _ _ h => h); have hda7 := (hm7'.block D zb id).trans HD6.out; obtain ⟨yb, y0, y1, y2, y3, y4, y5, y6, yf⟩ := Act4.facts hda7)
      | (go_at_call 19; refine (HFW.out _).mono ?_; rintro e w' ⟨rfl, rfl⟩)
      | (go_at_call 17; refine (replaced_calls _ rs fs _ hi7 ?_ ?_ ?_).mono ?_; omega; exact (fun s hs => by have := HRL.out s hs; omega); omega; rintro e w8 ⟨u, rfl, hm8, hr8⟩; obtain ⟨a8, n8, c8, rfl⟩ := hr8.shape; have hm8' : Mod NoB wc w8 := hm7'.trans hm8 (fun _ _ h => h); obtain ⟨xb, x0, x1, x2, x3, x4, x5, xf⟩ := (HV6.out.quiet hm8').box.facts))
    all_goals (have HM8 := Lib.hid hm8'; have HR8 := Lib.hid (ownsRow_base hr8 hm7'.size); clear hm7 hm7' hm8 hm8' hr8 hi7 hda7; go_wp2_with fail; first | (refine hK _ _ _ _ _ _ _ _ _ _ _ _ _ _ _ _ _ _ _ _ _ _ _ _ _ _ _ _ _ _ _ _ _ _ _ _ _ _ _ _ _ _ _ _ _ _ _ _ _ _ _ _ _ _ _ _ _ _ _ _ _ _ _ _ _ _ _ _ _ _ _ _ _ _ _ _ _ _ _ _ _ _ _ _ _ _ _ _ _ _ _ _ _ _ _ _ _ _ _ _ _ _ _ _ _ _ _ _ _ _ _ _ _ _ _ _ _ _ _ _ _ _ _ _ _ _ _ _ _ _ _ _ _ _ _ _ _ _ _ _ _ _ _ _ _ _ _ _ _ _ _ _ _ _ _ _ _ _ _ _ _ _ _ _ _ _ _ _ _ _ _ _ _ _ _ _ _ _ _ _ _ _ _ _ _ ?_) | skip; exact ⟨l, rfl, _, _, _, _, _, c + 2, _, HV6.out.stored (m' := Md.laid rs fs) HM8.out HR8.out rfl, HPR.out⟩)

end Go.Proofs.Ytgofngilfdnakaa
