/-
  This text proves what cupellaw04.WalFalls answers: under bounds that every argument keeps.
-/
import Derived.Test.YtgofngilfdnakaaFallR
import Derived.Test.YtgofngilfdnakaaFallC
import Derived.Test.YtgofngilfdnakaaFallD
import Derived.Test.YtgofngilfdnakaaOpenFall
import Derived.Test.YtgofngilfdnakaaAwake4
import Derived.Deep.Cut
import Derived.Deep.CutRange
import Derived.Deep.CutBlock
import Derived.Deep.RegionWith
namespace Go.Proofs.Ytgofngilfdnakaa
open Go Go.RowKit
attribute [local go_sem] over_cell over_frozen lt_over le_over noB loudUpon ByteArray.mk_append_mk ByteArray.extract_mk drop_full

theorem wp_asThen {P : Program} {s : Code} {Q : Exit → Act → World → Prop} {a : Act} {w : World} (h : s.wp P (Exit.then (Q .normal) Q) a w) : s.wp P Q a w :=
  wp_mono h fun e a' w' hq => by
    cases e with
    | normal => exact hq
    | panic c => exact hq
    | exit id => exact hq
    | goto l => exact hq
    | ret => exact hq
    | outgrown => exact hq
theorem fd_plan (c : Nat) (o : Option Str) (fl : Option Fall) : ({ pd c o with falls := fl } : Dk) = fd c o none fl false := by cases o <;> rfl
theorem fd_up (c : Nat) (o x : Option Str) (fl : Option Fall) : ({ fd c o x fl true with down := false } : Dk) = fd c o x fl false := rfl
theorem fd_unplan (c : Nat) (o : Option Str) (fl : Option Fall) : ({ fd c o none fl false with falls := none } : Dk) = pd c o := by cases o <;> rfl
theorem Fall3.facts {w : World} {D : Nat} {x0 x1 x2 : Value} (h : w.heap[D]? = some (.cells #[x0, x1, x2] 56 (0, 0))) : D < w.heap.size ∧ w.cell? ⟨D, 0, none⟩ = some x0 ∧ w.cell? ⟨D, 1, none⟩ = some x1 ∧ w.cell? ⟨D, 2, none⟩ = some x2 ∧ ∀ i, w.frozen? ⟨D, i, none⟩ = false :=
  ⟨lt_heap h, (cell_heap h 0).trans rfl, (cell_heap h 1).trans rfl, (cell_heap h 2).trans rfl, frozen_heap h⟩
theorem OpenPost.any' {p : Nat} {S : Nat → Prop} {w w' : World} {r : Option Lg × Int × Int × Dk} {e : Ending} (h : OpenPost p S w r e w') : (∃ l t x, e = .returned (.tuple #[.pointer l, .int .i64 t, .int .i64 x])) ∧ Mod S w w' ∧ Disk w' p (Since S w w') r.2.2.2 := by
  obtain ⟨g, t, x, d⟩ := r
  cases g with
  | none => obtain ⟨h1, h2, h3⟩ := h; exact ⟨⟨_, _, _, h1⟩, h2, h3⟩
  | some g => obtain ⟨l, h1, _, _, h2, h3⟩ := h; exact ⟨⟨_, _, _, h1⟩, h2, h3.mono (fun _ _ hk => hk.1)⟩

set_option maxRecDepth 100000 in
set_option maxHeartbeats 12800000 in
theorem WalFalls_calls (v fv : Value) (ls : List ActD) (fs : List Fall) (w : World) (h : ActsIn w v ls) (hf : FallsIn w fv fs) :
    Calls Try.prog 8 #[v, fv] w fun e w' => e = .returned (.bool true) ∧ Mod NoB w w' := by
  obtain ⟨a, cap, rfl, hlc, hcm, hcell⟩ := h
  rw [maxLen_eq] at hcm
  have HC := Lib.hid hcell
  obtain ⟨fa, fcap, rfl, hfc, hfm, hfcell⟩ := hf
  rw [maxLen_eq] at hfm
  have HFC := Lib.hid hfcell
  clear hcell hfcell
  go_enter Try.func8, Try.ntmps8
  go_wp2_with fail
  refine (New_calls w).mono ?_
  rintro e W1 ⟨rfl, hm1, hd1⟩
  generalize hp : w.heap.size + 2 = p at *
  clear hp
  have hop := Open_calls p _ Dk.fresh 0 W1 hd1 fit_fresh (by decide)
  rw [aw_open] at hop
  have HOP := Lib.hid hop
  have HDS := Lib.hid (DS.made hm1 hd1)
  clear hop hm1 hd1
  go_wp2_with fail
  refine HOP.out.mono ?_
  rintro e W2 ⟨l, rfl, hl0, hl2, hm2, hd2⟩
  have hL := HDS.out.opened hl0 hl2 hm2 hd2
  generalize (fun k => Since (Since NoB w W1) W1 W2 k ∧ k ≠ l) = S at hL
  have HL := Lib.hid hL
  clear hl0 hl2 hm2 hd2 HOP HDS hL
  go_wp2_with fail
  refine (awake_calls _).mono ?_
  rintro e W3 ⟨rfl, hm3⟩
  have HL3 := Lib.hid (HL.out.quiet hm3)
  clear hm3 HL
  go_upto_region 6 with fail
  have hz : (W3.alloc (.cells #[.slice none 0 0, .slice none 0 0, .int .i64 0, .int .i64 0, .string ⟨#[]⟩, .int .i64 0] 27)).heap.size = W3.heap.size + 1 := size_alloc _ _
  have hm4 : Mod NoB W3 ((W3.alloc (.cells #[.slice none 0 0, .slice none 0 0, .int .i64 0, .int .i64 0, .string ⟨#[]⟩, .int .i64 0] 27)).alloc (.cells #[.slice none 0 0, .slice none 0 0, .int .i64 0, .int .i64 0, .string ⟨#[]⟩, .int .i64 0] 27)) := ((Mod.refl _ _).alloc _).alloc _
  have hb1 : Box ((W3.alloc (.cells #[.slice none 0 0, .slice none 0 0, .int .i64 0, .int .i64 0, .string ⟨#[]⟩, .int .i64 0] 27)).alloc (.cells #[.slice none 0 0, .slice none 0 0, .int .i64 0, .int .i64 0, .string ⟨#[]⟩, .int .i64 0] 27)) W3.heap.size (.slice none 0 0) (.slice none 0 0) Md.zero := by
    unfold Box
    rw [heap_alloc_lt _ _ _ (by rw [hz]; omega)]
    exact heap_alloc_new _ _
  have hb2 : Box ((W3.alloc (.cells #[.slice none 0 0, .slice none 0 0, .int .i64 0, .int .i64 0, .string ⟨#[]⟩, .int .i64 0] 27)).alloc (.cells #[.slice none 0 0, .slice none 0 0, .int .i64 0, .int .i64 0, .string ⟨#[]⟩, .int .i64 0] 27)) (W3.heap.size + 1) (.slice none 0 0) (.slice none 0 0) Md.zero := by
    have := heap_alloc_new (W3.alloc (.cells #[.slice none 0 0, .slice none 0 0, .int .i64 0, .int .i64 0, .string ⟨#[]⟩, .int .i64 0] 27)) (.cells #[.slice none 0 0, .slice none 0 0, .int .i64 0, .int .i64 0, .string ⟨#[]⟩, .int .i64 0] 27)
    rw [hz] at this
    exact this
  have hpv : ∀ X, (X = W3.heap.size ∨ X = W3.heap.size + 1) → Box ((W3.alloc (.cells #[.slice none 0 0, .slice none 0 0, .int .i64 0, .int .i64 0, .string ⟨#[]⟩, .int .i64 0] 27)).alloc (.cells #[.slice none 0 0, .slice none 0 0, .int .i64 0, .int .i64 0, .string ⟨#[]⟩, .int .i64 0] 27)) X (.slice none 0 0) (.slice none 0 0) Md.zero → PV w ((W3.alloc (.cells #[.slice none 0 0, .slice none 0 0, .int .i64 0, .int .i64 0, .string ⟨#[]⟩, .int .i64 0] 27)).alloc (.cells #[.slice none 0 0, .slice none 0 0, .int .i64 0, .int .i64 0, .string ⟨#[]⟩, .int .i64 0] 27)) S p l X (.slice none 0 0) (.slice none 0 0) (pd 0 none) emptyLog Md.zero := fun X hX hb =>
    ⟨(HL3.out.quiet hm4).holds (fun k hk => by
      rcases hk with rfl | hk | hk
      · exact ⟨lt_heap hb, HL3.out.fresh (by omega)⟩
      · cases hk
      · cases hk), hb, recs_nil rfl, recs_nil rfl, fun e => (by cases e), fun e => (by cases e), by have := HL3.out.mod.size; omega⟩
  have hfo : FO w _ S p l W3.heap.size (W3.heap.size + 1) (.slice none 0 0) (.slice none 0 0) (.slice none 0 0) (.slice none 0 0) (pd 0 none) emptyLog Md.zero Md.zero := ⟨hpv _ (.inl rfl) hb1, hpv _ (.inr rfl) hb2, by omega⟩
  have HFO := Lib.hid hfo
  clear hfo hpv hb1 hb2 hm4 HL3 hz
  generalize (W3.alloc (.cells #[.slice none 0 0, .slice none 0 0, .int .i64 0, .int .i64 0, .string ⟨#[]⟩, .int .i64 0] 27)).alloc (.cells #[.slice none 0 0, .slice none 0 0, .int .i64 0, .int .i64 0, .string ⟨#[]⟩, .int .i64 0] 27) = W4 at *
  generalize W3.heap.size + 1 = O at *
  generalize W3.heap.size = C at *
  have HIN : Hid (∃ S v1 v2 x1 x2 g m mm c o n, FO w W4 S p l C O v1 v2 x1 x2 (pd c o) g m mm ∧ PP n g m c o ∧ n ≤ 40 * 0) := ⟨_, _, _, _, _, _, _, _, _, _, 0, HFO.out, PP.first, Nat.le_refl _⟩
  clear HFO
  go_wp2_with fail
  go_loopw [6, 11] (fun lp i wr => ∃ k l : Nat, k ≤ fs.length ∧ k ≤ 5 ∧ i = .int .i64 k ∧ lp = .pointer (some ⟨l, 0, none⟩) ∧ Hid (∃ S v1 v2 x1 x2 g m mm c o n, FO w wr S p l C O v1 v2 x1 x2 (pd c o) g m mm ∧ PP n g m c o ∧ n ≤ 40 * k)) (fun _ i _ => fs.length - (intOf i).toNat)
  case atStart => exact ⟨0, l, by omega, by omega, rfl, rfl, HIN⟩
  case round =>
    obtain ⟨k, l, hkl, hk5, rfl, rfl, HREL⟩ := hrel
    clear HIN
    by_cases hlt : k < fs.length ∧ k < 5
    · obtain ⟨hlt, hlt5⟩ := hlt
      obtain ⟨S, v1, v2, x1, x2, g, m, mm, c, o, n, hV, hP, hn40⟩ := HREL.out
      obtain ⟨b, q, rfl, hb, e0, e1, e2, _, _⟩ := HFC.out k hlt
      have hM := hV.c.ld.mod
      rw [← World.cell?_of_block (w := w) (hM.block b hb id)] at e0 e1 e2
      have hbw := Nat.lt_of_lt_of_le hb hM.size
      generalize fs[k] = f at *
      obtain ⟨f0, f1, f2⟩ := f
      simp only at e0 e1 e2
      have HV := Lib.hid hV
      have HP := Lib.hid hP
      have HDW : Hid (w.heap.size ≤ wr.heap.size) := hM.size
      clear hV hP hM HREL
      go_upto_region 10 with fail
      have hn1 : Mod NoB wr (wr.alloc (.cells #[.int .i64 f0, .int .i64 f1, .int .i64 f2] 56)) := (Mod.refl _ _).alloc _
      have HV1 := Lib.hid (HV.out.quiet hn1)
      have HK1 : Hid (KB (wr.alloc (.cells #[.int .i64 f0, .int .i64 f1, .int .i64 f2] 56)) S l wr.heap.size #[.int .i64 f0, .int .i64 f1, .int .i64 f2] 56) := ⟨heap_alloc_new _ _, (HV.out.c.ld.fresh (Nat.le_refl _)).1, (HV.out.c.ld.fresh (Nat.le_refl _)).2⟩
      clear hn1 HV
      generalize wr.alloc (.cells #[.int .i64 f0, .int .i64 f1, .int .i64 f2] 56) = Wa at *
      generalize wr.heap.size = D at *
      obtain ⟨db, y0, y1, y2, yf⟩ := Fall3.facts HK1.out.cells
      go_upto_if 48 with fail
      go_cut [] from 32 to 190 (fun wx => ∃ a0 : Int, Hid (FO w wx S p l C O v1 v2 x1 x2 (pd c o) g m mm) ∧ Hid (KB wx S l D #[.int .i64 a0, .int .i64 f1, .int .i64 f2] 56))
      case first =>
        by_cases hneg : f0 < 0
        · have hs : Mod (fun k => k = D) Wa (Wa.setCell ⟨D, 0, none⟩ (.int .i64 0)) := Mod.setCell (Mod.refl _ _) _ _ (fun _ => rfl)
          have HA1 := Lib.hid (HV1.out.kept HK1.out HDW.out (by decide) (by decide) hs)
          have HA2 : Hid (KB (Wa.setCell ⟨D, 0, none⟩ (.int .i64 0)) S l D #[.int .i64 0, .int .i64 f1, .int .i64 f2] 56) := ⟨by simp only [heap_setCell_same, HK1.out.cells, Option.map_some, setAt_cells, List.setIfInBounds_toArray, List.set_cons_zero], HK1.out.ns, HK1.out.nl⟩
          clear hs
          go_wp2_with fail
          go_meet
          exact ⟨0, HA1, HA2⟩
        · go_wp2_with fail
          go_meet
          exact ⟨f0, HV1, HK1⟩
      case rest =>
        obtain ⟨a0, HV2, HK2⟩ := hcut
        clear y0 y1 y2 yf db HV1 HK1
        obtain ⟨db, y0, y1, y2, yf⟩ := Fall3.facts HK2.out.cells
        have HCH := Lib.hid (fun X (hm : Mod NoB wc X) => Changes_calls p S (pd c o) X (HV2.out.quiet hm).c.ld.disk)
        go_upto_region 12 with fail
        go_cut [] from 32 to 190 (fun wx => ∃ a1 : Int, Hid (FO w wx S p l C O v1 v2 x1 x2 (pd c o) g m mm) ∧ Hid (KB wx S l D #[.int .i64 a1, .int .i64 f1, .int .i64 f2] 56))
        case first =>
          have hs : ∀ u, Mod (fun k => k = D) wc (wc.drew.setCell ⟨D, 0, none⟩ u) := fun u => Mod.setCell ((Mod.refl _ _).drew) _ _ (fun _ => rfl)
          have HA1 := Lib.hid (fun u => HV2.out.kept HK2.out HDW.out (by decide) (by decide) (hs u))
          have HA2 : Hid (∀ u, KB (wc.drew.setCell ⟨D, 0, none⟩ (.int .i64 u)) S l D #[.int .i64 u, .int .i64 f1, .int .i64 f2] 56) := fun u => ⟨by simp only [heap_setCell_same, heap_drew, HK2.out.cells, Option.map_some, setAt_cells, List.setIfInBounds_toArray, List.set_cons_zero], HK2.out.ns, HK2.out.nl⟩
          clear hs
          go_region_with (go_at_call 35; refine (HCH.out _ ?_).mono ?_; exact (Mod.refl _ _).drew; rintro e w5 ⟨rfl, rfl⟩)
          all_goals (
            go_wp2_with fail
            go_meet
            exact ⟨IntKind.i64.wrap (((pd c o).changes : Int) + a0.tmod 20), HA1.out _, HA2.out _⟩)
        case rest =>
          obtain ⟨a1, HV3, HK3⟩ := hcut
          clear y0 y1 y2 yf db HV2 HK2 HCH
          obtain ⟨db, y0, y1, y2, yf⟩ := Fall3.facts HK3.out.cells
          have hma : Mod NoB wc (wc.alloc (.cells #[.int .i64 a1, .int .i64 f1, .int .i64 f2] 56)) := (Mod.refl _ _).alloc _
          have hpl := Plan_calls p S (pd c o) (.slice (some ⟨wc.heap.size, 0, none⟩) 1 1) (some ⟨a1, f1, f2⟩) (wc.alloc (.cells #[.int .i64 a1, .int .i64 f1, .int .i64 f2] 56)) (HV3.out.quiet hma).c.ld.disk ⟨wc.heap.size, 1, _, rfl, Nat.le_refl _, by rw [maxLen_eq]; omega, heap_alloc_new _ _, rfl, rfl, rfl, rfl⟩
          rw [fd_plan] at hpl
          have HV4 := Lib.hid (HV3.out.quiet hma)
          have HK4 := Lib.hid (HK3.out.quiet hma)
          have HPL := Lib.hid hpl
          clear hpl hma HV3 HK3
          go_wp2_with fail
          refine HPL.out.mono ?_
          rintro e Y1 ⟨rfl, hm5, hd5⟩
          have HV5 := Lib.hid (HV4.out.disks hm5 hd5)
          have HK5 := Lib.hid (HK4.out.disks hm5)
          generalize Since S _ Y1 = S5 at HV5 HK5
          obtain ⟨a3, n3, c3, rfl⟩ := HV5.out.c.r1.shape
          obtain ⟨a4, n4, c4, rfl⟩ := HV5.out.c.r2.shape
          obtain ⟨xb, z0, z1, z2, z3, z4, z5, xf⟩ := HV5.out.c.box.facts
          obtain ⟨ob, o0, o1, o2, o3, o4, o5, of⟩ := HV5.out.o.box.facts
          clear hm5 hd5 HPL HV4 HK4 y0 y1 y2 yf db
          have HDO : Hid (D ≠ O) := box_type HK5.out.cells HV5.out.o.box (by decide)
          go_upto_region 15 with fail
          have HV6 : Hid (FO w (putBox Y1 O (.slice a3 n3 c3) (.slice a4 n4 c4) m) S5 p l C O (.slice a3 n3 c3) (.slice a4 n4 c4) (.slice a3 n3 c3) (.slice a4 n4 c4) (fd c o none (some ⟨a1, f1, f2⟩) false) g m m) := HV5.out.taken
          have HK6 : Hid (KB (putBox Y1 O (.slice a3 n3 c3) (.slice a4 n4 c4) m) S5 l D #[.int .i64 a1, .int .i64 f1, .int .i64 f2] 56) := HK5.out.aside (putBox_mod _ _ _ _ _) HDO.out
          unfold putBox at HV6 HK6
          generalize ((((((Y1.setCell ⟨O, 0, none⟩ (.slice a3 n3 c3)).setCell ⟨O, 1, none⟩ (.slice a4 n4 c4)).setCell ⟨O, 2, none⟩ (.int .i64 m.long)).setCell ⟨O, 3, none⟩ (.int .i64 m.more)).setCell ⟨O, 4, none⟩ (.string ⟨m.root.toArray⟩)).setCell ⟨O, 5, none⟩ (.int .i64 m.marks)) = W6 at *
          generalize HFX : (#[.int .i64 a1, .int .i64 f1, .int .i64 f2] : Array Value) = fc at *
          have HINI : Hid (∃ S v1 v2 x1 x2 g m mm c o x fl dn, FO w W6 S p l C O v1 v2 x1 x2 (fd c o x fl dn) g m mm ∧ KB W6 S l D fc 56 ∧ IP (n + 0) g m c o x fl dn) :=
            ⟨_, _, _, _, _, _, _, _, _, _, _, _, _, HV6.out, HK6.out, .inl ⟨rfl, rfl, HP.out⟩⟩
          clear HV6 HK6 HV5 HK5 HP HDO z0 z1 z2 z3 z4 z5 xf xb o0 o1 o2 o3 o4 o5 of ob
          go_upto_block 2 with fail
          go_cut [] from 32 to 190 (fun wx => Hid (∃ S v1 v2 x1 x2 g m mm c o x fl dn n', n' ≤ n + 30 ∧ FO w wx S p l C O v1 v2 x1 x2 (fd c o x fl dn) g m mm ∧ KB wx S l D fc 56 ∧ IP n' g m c o x fl dn))
          case first =>
            go_wp2_with fail
            go_loopw [13] (fun i wr => ∃ k2 : Nat, k2 ≤ ls.length ∧ k2 ≤ 30 ∧ i = .int .i64 k2 ∧ Hid (∃ S v1 v2 x1 x2 g m mm c o x fl dn, FO w wr S p l C O v1 v2 x1 x2 (fd c o x fl dn) g m mm ∧ KB wr S l D fc 56 ∧ IP (n + k2) g m c o x fl dn)) (fun i _ => ls.length - (intOf i).toNat)
            case atStart => exact ⟨0, by omega, by omega, rfl, HINI⟩
            case round =>
              obtain ⟨k2, hkl2, hk30, rfl, HREL⟩ := hrel
              clear HINI
              have HOUT : Hid (∃ S v1 v2 x1 x2 g m mm c o x fl dn n', n' ≤ n + 30 ∧ FO w wr S p l C O v1 v2 x1 x2 (fd c o x fl dn) g m mm ∧ KB wr S l D fc 56 ∧ IP n' g m c o x fl dn) := by
                obtain ⟨S, v1, v2, x1, x2, g, m, mm, c, o, x, fl, dn, h1, h2, h3⟩ := HREL.out
                exact ⟨S, v1, v2, x1, x2, g, m, mm, c, o, x, fl, dn, n + k2, by omega, h1, h2, h3⟩
              by_cases hlt2 : k2 < ls.length ∧ k2 < 30
              · obtain ⟨hlt2, hlt30⟩ := hlt2
                obtain ⟨S, v1, v2, x1, x2, g, m, mm, c, o, x, fl, dn, hV, hK, hI⟩ := HREL.out
                have HDE := Lib.hid (Dead_calls p S (fd c o x fl dn) wr hV.c.ld.disk)
                have HV := Lib.hid hV
                have HK := Lib.hid hK
                have HI := Lib.hid hI
                clear hV hK hI HREL
                cases dn with
                | true =>
                  clear HV HK HI
                  go_wp2_with fail
                  refine HDE.out.mono ?_
                  rintro e w' ⟨rfl, rfl⟩
                  simp only [fd]
                  go_wp2_with fail
                  go_meet
                  exact HOUT
                | false =>
                  have hI2 : x = none ∧ PP (n + k2) g m c o := by
                    rcases HI.out with ⟨_, h1, h2⟩ | ⟨h1, _⟩
                    · exact ⟨h1, h2⟩
                    · cases h1
                  obtain ⟨rfl, hPP⟩ := hI2
                  have HPA := Lib.hid hPP
                  clear hPP HI HOUT
                  obtain ⟨a1', n1, c1, rfl⟩ := HV.out.c.r1.shape
                  obtain ⟨a2, n2, c2, rfl⟩ := HV.out.c.r2.shape
                  obtain ⟨b1, m1, e1, rfl⟩ := HV.out.o.r1.shape
                  obtain ⟨b2, m2, e2, rfl⟩ := HV.out.o.r2.shape
                  obtain ⟨b, q2, rfl, hb, g0, g1, g2, g3, g4, g5, g6, hst, hsl, hss, hn0, hn1⟩ := HC.out k2 hlt2
                  have hM := HV.out.c.ld.mod
                  rw [← World.cell?_of_block (w := w) (hM.block b hb id)] at g0 g1 g2 g3 g4 g5 g6
                  have hbw := Nat.lt_of_lt_of_le hb hM.size
                  generalize ls[k2] = Ac at *
                  obtain ⟨kind, nn, ss, lv, lss, f3, f4, f5⟩ := Ac
                  simp only at g0 g1 g2 g3 g4 g5 g6 hst hsl hss hn0 hn1
                  have hlvs : ∃ al nl cl, lv = .slice al nl cl := by obtain ⟨x, y, rfl, _⟩ := hst; exact ⟨_, _, _, rfl⟩
                  obtain ⟨al, nl, cl, rfl⟩ := hlvs
                  have HST := Lib.hid hst
                  have HSL := Lib.hid hsl
                  clear hst hsl hM
                  have hna : Mod NoB wr (wr.alloc (.cells #[.int .i64 kind, .int .i64 nn, .string ⟨ss.toArray⟩, .slice al nl cl, .int .i64 f3, .int .i64 f4, .int .i64 f5] 64)) := (Mod.refl _ _).alloc _
                  have HVA := Lib.hid (HV.out.quiet hna)
                  have HDA := Lib.hid (HK.out.quiet hna)
                  have HAA : Hid (KB (wr.alloc (.cells #[.int .i64 kind, .int .i64 nn, .string ⟨ss.toArray⟩, .slice al nl cl, .int .i64 f3, .int .i64 f4, .int .i64 f5] 64)) S l wr.heap.size #[.int .i64 kind, .int .i64 nn, .string ⟨ss.toArray⟩, .slice al nl cl, .int .i64 f3, .int .i64 f4, .int .i64 f5] 64) := ⟨heap_alloc_new _ _, (HV.out.c.ld.fresh (Nat.le_refl _)).1, (HV.out.c.ld.fresh (Nat.le_refl _)).2⟩
                  clear hna HV HK
                  go_wp2_with fail
                  refine HDE.out.mono ?_
                  rintro e w' ⟨rfl, rfl⟩
                  simp only [fd]
                  go_upto_block 3 with fail
                  go_cut [] from 62 to 150 (fun wx => Hid (∃ S v1 v2 x1 x2 g m mm c o x fl dn, FO w wx S p l C O v1 v2 x1 x2 (fd c o x fl dn) g m mm ∧ KB wx S l D fc 56 ∧ IP (n + k2 + 1) g m c o x fl dn))
                  case first =>
                    rename_i J K2 h1 h2
                    go_upto_block 4 with fail
                    generalize wr.alloc (.cells #[.int .i64 kind, .int .i64 nn, .string ⟨ss.toArray⟩, .slice al nl cl, .int .i64 f3, .int .i64 f4, .int .i64 f5] 64) = Wa at *
                    generalize wr.heap.size = A at *
                    by_cases q7 : kind = 7
                    · subst q7
                      refine wp_asThen (wp_loudQ (fun _ _ _ _ h => h) (fall_r w Wa S p l C O D A (n + k2) c o fl g m mm fc a1' a2 b1 b2 al n1 c1 n2 c2 m1 e1 m2 e2 nl cl nn f3 f4 f5 ss HVA.out HDA.out HAA.out HPA.out (by omega) hss lss HST.out HSL.out _ _ _ _ _ _ _ _ _ _ _ _ _ _ _ _ _ _ _ _ _ _ _ _ _ _ _ _ _ _ _ _ _ _ _ _ _ _ _ _ _ _ _ _ _ _ _ _ _ _ _ _ _ _ _ _ _ _ _ _ _ _ _ _ _ _ _ _ _ _ _ _ _ _ _ _ _ _ _ _ _ _ _ _ _ _ _ _ _ _ _ _ _ _ _ _ _ _ _ _ _ _ _ _ _ _ _ _ _ _ _ _ _ _ _ _ _ _ _ _ _ _ _ _ _ _ _ _ _ _ _ _ _ _ _ _ _ _ _ _ _ _ _ _ _ _ _ _ _ _ _ _ _ _ _ _ _ _ _ _ _ _ _ _ _ _ _ _ _ _ _ _ _ _ _ _ _ _ _ _ _ _ _ _ _ _ _ _ _ ?_))
                      intros
                      rename_i hz
                      refine h2 _ _ (Met.intro (h1 _ _ ?_))
                      repeat apply Exists.intro
                      exact ⟨hz, rfl⟩
                    · by_cases q4 : 4 ≤ kind ∧ kind ≤ 6
                      · obtain ⟨q4, q6⟩ := q4
                        refine wp_asThen (wp_loudQ (fun _ _ _ _ h => h) (fall_c w Wa S p l C O D A (n + k2) c o fl g m mm fc a1' a2 b1 b2 al n1 c1 n2 c2 m1 e1 m2 e2 nl cl kind nn f3 f4 f5 ss HVA.out HDA.out HAA.out HPA.out (by omega) hss q7 q4 q6 _ _ _ _ _ _ _ _ _ _ _ _ _ _ _ _ _ _ _ _ _ _ _ _ _ _ _ _ _ _ _ _ _ _ _ _ _ _ _ _ _ _ _ _ _ _ _ _ _ _ _ _ _ _ _ _ _ _ _ _ _ _ _ _ _ _ _ _ _ _ _ _ _ _ _ _ _ _ _ _ _ _ _ _ _ _ _ _ _ _ _ _ _ _ _ _ _ _ _ _ _ _ _ _ _ _ _ _ _ _ _ _ _ _ _ _ _ _ _ _ _ _ _ _ _ _ _ _ _ _ _ _ _ _ _ _ _ _ _ _ _ _ _ _ _ _ _ _ _ _ _ _ _ _ _ _ _ _ _ _ _ _ _ _ _ _ _ _ _ _ _ _ _ _ _ _ _ _ _ _ _ _ _ _ _ _ _ _ _ ?_))
                        intros
                        rename_i hz
                        refine h2 _ _ (Met.intro (h1 _ _ ?_))
                        repeat apply Exists.intro
                        exact ⟨hz, rfl⟩
                      · refine wp_asThen (wp_loudQ (fun _ _ _ _ h => h) (fall_d w Wa S p l C O D A (n + k2) c o fl g m mm fc a1' a2 b1 b2 al n1 c1 n2 c2 m1 e1 m2 e2 nl cl kind nn f3 f4 f5 ss HVA.out HDA.out HAA.out HPA.out (by omega) hss q7 q4 _ _ _ _ _ _ _ _ _ _ _ _ _ _ _ _ _ _ _ _ _ _ _ _ _ _ _ _ _ _ _ _ _ _ _ _ _ _ _ _ _ _ _ _ _ _ _ _ _ _ _ _ _ _ _ _ _ _ _ _ _ _ _ _ _ _ _ _ _ _ _ _ _ _ _ _ _ _ _ _ _ _ _ _ _ _ _ _ _ _ _ _ _ _ _ _ _ _ _ _ _ _ _ _ _ _ _ _ _ _ _ _ _ _ _ _ _ _ _ _ _ _ _ _ _ _ _ _ _ _ _ _ _ _ _ _ _ _ _ _ _ _ _ _ _ _ _ _ _ _ _ _ _ _ _ _ _ _ _ _ _ _ _ _ _ _ _ _ _ _ _ _ _ _ _ _ _ _ _ _ _ _ _ _ _ _ _ _ _ ?_))
                        intros
                        rename_i hz
                        refine h2 _ _ (Met.intro (h1 _ _ ?_))
                        repeat apply Exists.intro
                        exact ⟨hz, rfl⟩
                  case rest =>
                    have HNX := hcut
                    clear HVA HDA HAA
                    go_wp2_with fail
                    go_roundw
                    case rel => exact ⟨k2 + 1, by omega, by omega, by go_num, HNX⟩
                    case measure => simp [intOf]; omega
              · clear HREL
                by_cases h1 : k2 < ls.length
                · have h2 : k2 = 30 := by omega
                  subst h2
                  go_wp2_with fail
                  go_meet
                  exact HOUT
                · go_wp2_with fail
                  go_meet
                  exact HOUT
          case rest =>
            subst HFX
            obtain ⟨S, v1, v2, x1, x2, g, m, mm, c, o, x, fl, dn, n', hn', hV, hK, hI⟩ := hcut.out
            obtain ⟨hPr, hxf, hxl⟩ := hI.rest
            obtain ⟨b3, n3, c3, rfl⟩ := hV.c.r1.shape
            obtain ⟨b4, n4, c4, rfl⟩ := hV.c.r2.shape
            obtain ⟨b5, n5, c5, rfl⟩ := hV.o.r1.shape
            obtain ⟨b6, n6, c6, rfl⟩ := hV.o.r2.shape
            have hfile : o.getD [] = g.s := hPr.file
            have hsz : g.s.length ≤ 3000 + (n' + 1) * 400 := by have := hPr.size; simp only [List.length_nil] at this; omega
            have hch := hPr.chs
            have hft : ∀ dn', Fit (fd c o x fl dn') 500000 := fun dn' => fd_fit (by rw [hfile]; omega) (by omega)
            have hcr := Crash_calls p S (fd c o x fl dn) f1 f2 500000 wc hV.c.ld.disk (hft dn).le (by omega)
            rw [fd_crash] at hcr
            have HCR := Lib.hid hcr
            have HV := Lib.hid hV
            have HK := Lib.hid hK
            have HPR := Lib.hid hPr
            have HFT := Lib.hid hft
            obtain ⟨db, y0, y1, y2, yf⟩ := Fall3.facts hK.cells
            clear hcut hcr hV hK hPr hI hft HINI
            go_wp2_with fail
            refine HCR.out.mono ?_
            rintro e Z1 ⟨rfl, hm1, hd1⟩
            have HV1 := Lib.hid (HV.out.disks hm1 hd1)
            have HK1 := Lib.hid (HK.out.disks hm1)
            generalize Since S wc Z1 = S1 at HV1 HK1
            have hup := Up_calls p S1 (fd c o x fl true) Z1 HV1.out.c.ld.disk
            rw [fd_up] at hup
            have HUP := Lib.hid hup
            clear hm1 hd1 hup HCR HV HK y0 y1 y2 yf db
            go_wp2_with fail
            refine HUP.out.mono ?_
            rintro e Z2 ⟨rfl, hm2, hd2⟩
            have HV2 := Lib.hid (HV1.out.disks hm2 (hd2.mono (fun _ _ h => .inl h)))
            have HK2 := Lib.hid (HK1.out.disks hm2)
            generalize Since S1 Z1 Z2 = S2 at HV2 HK2
            obtain ⟨c', fl', hc1, hc2, hop⟩ := fd_open HPR.out hxf
            have hop2 := Open_calls p S2 (fd c o x fl false) 500000 Z2 HV2.out.c.ld.disk (HFT.out false) (by omega)
            rw [hop] at hop2
            have HOP := Lib.hid hop2
            have HPR2 := Lib.hid (PP.later (k' := n' + 2) (c' := c') HPR.out (by omega) (by omega))
            clear hm2 hd2 hop2 hop HUP HV1 HK1 HPR HFT
            go_wp2_with fail
            refine HOP.out.mono ?_
            intro e Z3 hpo
            obtain ⟨⟨lo, tt, xo, rfl⟩, hm3, hd3⟩ := hpo.any'
            have HV3 : Hid (FO w Z3 (Since S2 Z2 Z3) p l C O (.slice b3 n3 c3) (.slice b4 n4 c4) (.slice b5 n5 c5) (.slice b6 n6 c6) (fd c' o none fl' false) g m mm) := HV2.out.disks hm3 hd3
            have HK3 := Lib.hid (HK2.out.disks hm3)
            generalize Since S2 Z2 Z3 = S3 at HV3 HK3
            have hpl := Plan_calls p S3 (fd c' o none fl' false) (.slice none 0 0) none Z3 HV3.out.c.ld.disk ⟨none, 0, rfl, fun k hk => by cases hk⟩
            rw [fd_unplan] at hpl
            have HPL := Lib.hid hpl
            clear hm3 hd3 hpl hpo HOP HV2 HK2
            go_wp2_with fail
            refine HPL.out.mono ?_
            rintro e Z4 ⟨rfl, hm4, hd4⟩
            have HV4 := Lib.hid (HV3.out.disks hm4 hd4)
            have HK4 := Lib.hid (HK3.out.disks hm4)
            generalize Since S3 Z3 Z4 = S4 at HV4 HK4
            have hfit : Fit (pd c' o) 500000 := pd_fit (by rw [hfile]; omega) (by omega)
            have hcr := Crash_calls p S4 (pd c' o) f2 f1 500000 Z4 HV4.out.c.ld.disk hfit.le (by omega)
            have HCR := Lib.hid hcr
            have HFIT := Lib.hid hfit
            obtain ⟨db, y0, y1, y2, yf⟩ := Fall3.facts HK4.out.cells
            clear hm4 hd4 hcr hfit HPL HV3 HK3
            go_wp2_with fail
            refine HCR.out.mono ?_
            rintro e Z5 ⟨rfl, hm5, hd5⟩
            have HV5 := Lib.hid (HV4.out.disks hm5 hd5)
            generalize Since S4 Z4 Z5 = S5 at HV5
            have hup := Up_calls p S5 _ Z5 HV5.out.c.ld.disk
            rw [pd_crash] at hup
            have HUP := Lib.hid hup
            clear hm5 hd5 hup HCR HV4 HK4 y0 y1 y2 yf db
            go_wp2_with fail
            refine HUP.out.mono ?_
            rintro e Z6 ⟨rfl, hm6, hd6⟩
            have HV6 := Lib.hid (HV5.out.disks hm6 (hd6.mono (fun _ _ h => .inl h)))
            generalize Since S5 Z5 Z6 = S6 at HV6
            have hop := Open_calls p S6 (pd c' o) 500000 Z6 HV6.out.c.ld.disk HFIT.out (by omega)
            rw [HPR2.out.opens] at hop
            have HOP := Lib.hid hop
            clear hm6 hd6 hop HUP HV5 HFIT
            go_wp2_with fail
            refine HOP.out.mono ?_
            rintro e Z7 ⟨l2, rfl, hl0, hl7, hm7, hd7⟩
            have HV7 := Lib.hid (HV6.out.reopened hl0 hl7 hm7 hd7)
            generalize (fun k => Since S6 Z6 Z7 k ∧ k ≠ l2) = S7 at HV7
            obtain ⟨xb, z0, z1, z2, z3, z4, z5, xf⟩ := HV7.out.c.box.facts
            obtain ⟨ob, o0, o1, o2, o3, o4, o5, of⟩ := HV7.out.o.box.facts
            have HV8 := Lib.hid HV7.out.rested
            have hco : ¬ C = O := HV7.out.co
            have hco' : ¬ O = C := fun e => HV7.out.co e.symm
            clear hl0 hl7 hm7 hd7 HOP HV6
            go_upto_region 40 with fail
            generalize (((Z7.setCell ⟨C, 1, none⟩ (.slice none 0 0)).setCell ⟨C, 3, none⟩ (.int .i64 0)).setCell ⟨O, 1, none⟩ (.slice none 0 0)).setCell ⟨O, 3, none⟩ (.int .i64 0) = W8 at *
            clear z0 z1 z2 z3 z4 z5 xf xb o0 o1 o2 o3 o4 o5 of ob HV7
            obtain ⟨xb, z0, z1, z2, z3, z4, z5, xf⟩ := HV8.out.c.box.facts
            have hk0 := HPR2.out.size
            have hk2 := HPR2.out.mks
            have hk3 := HPR2.out.cnt
            have hk4 := HPR2.out.holds.long
            have hk5 := HPR2.out.holds.more
            have hk6 := HPR2.out.holds.marks
            simp only [List.length_nil] at hk0 hk5
            have hsm := same_calls l2 p w.heap.size w.heap.size _ _ _ m.rest W8 HV8.out.c.ld.log HV8.out.c.r1 HV8.out.c.r2 (by omega) (HPR2.out.agree (by omega)) (by simp only [] at hk4; omega) (by omega) (by simp only [] at hk2 hk6; omega)
            have HSM := Lib.hid hsm
            have hle : n' + 2 ≤ 40 * (k + 1) := by omega
            clear hsm hk0 hk2 hk3 hk4 hk5 hk6
            go_wp2_with fail
            refine HSM.out.mono ?_
            rintro e wn ⟨rfl, hmn⟩
            have HR2 : Hid (∃ S v1 v2 x1 x2 g m mm c o n, FO w wn S p l2 C O v1 v2 x1 x2 (pd c o) g m mm ∧ PP n g m c o ∧ n ≤ 40 * (k + 1)) := ⟨_, _, _, _, _, _, _, _, _, _, _, HV8.out.quiet hmn, HPR2.out, hle⟩
            clear hmn HSM HV8 z0 z1 z2 z3 z4 z5 xf xb
            go_wp2_with fail
            go_roundw
            case rel => exact ⟨k + 1, l2, by omega, by omega, by go_num, rfl, HR2⟩
            case measure => simp [intOf]; omega
    · have HM : Hid (Mod NoB w wr) := by obtain ⟨S, v1, v2, x1, x2, g, m, mm, c, o, n, hV, _⟩ := HREL.out; exact hV.c.ld.mod
      clear HREL
      by_cases h1 : k < fs.length
      · have h2 : k = 5 := by omega
        subst h2
        go_wp2_with fail
        go_ret
        exact ⟨rfl, HM.out⟩
      · go_wp2_with fail
        go_ret
        exact ⟨rfl, HM.out⟩

end Go.Proofs.Ytgofngilfdnakaa
