/-
  This text proves what cupellaw04.WalPlays answers: under bounds that every argument keeps.
-/
import Derived.Test.YtgofngilfdnakaaWalY3
import Derived.Test.YtgofngilfdnakaaWalY4
import Derived.Test.YtgofngilfdnakaaWalY5
import Derived.Test.YtgofngilfdnakaaWalY6
import Derived.Test.YtgofngilfdnakaaWalY7
import Derived.Test.YtgofngilfdnakaaWalY8
import Derived.Test.YtgofngilfdnakaaWalYd
import Derived.Test.YtgofngilfdnakaaAwake4
import Derived.Deep.Cut
import Derived.Deep.CutRange
import Derived.Deep.CutBlock
import Derived.Deep.RegionWith
namespace Go.Proofs.Ytgofngilfdnakaa
open Go Go.RowKit
attribute [local go_sem] over_cell over_frozen lt_over le_over noB loudUpon ByteArray.mk_append_mk ByteArray.extract_mk drop_full

set_option maxRecDepth 100000 in
set_option maxHeartbeats 12800000 in
theorem WalPlays_calls (v : Value) (ls : List ActD) (w : World) (h : ActsIn w v ls) :
    Calls Try.prog 6 #[v] w fun e w' => e = .returned (.bool true) ∧ Mod NoB w w' := by
  obtain ⟨a, cap, rfl, hlc, hcm, hcell⟩ := h
  rw [maxLen_eq] at hcm
  have HC := Lib.hid hcell
  clear hcell
  go_enter Try.func6, Try.ntmps6
  go_wp2_with fail
  refine (New_calls w).mono ?_
  rintro e W1 ⟨rfl, hm1, hd1⟩
  generalize hp : w.heap.size + 2 = p at *
  clear hp
  have hop := Open_calls p _ Dk.fresh 0 W1 hd1 fit_fresh (by decide)
  rw [aw_open] at hop
  have HOP := Lib.hid hop
  have HDS := Lib.hid (DS.made hm1 hd1)
  clear hop hm1 hd1
  go_wp2_with fail
  refine HOP.out.mono ?_
  rintro e W2 ⟨l, rfl, hl0, hl2, hm2, hd2⟩
  have hL := HDS.out.opened hl0 hl2 hm2 hd2
  generalize (fun k => Since (Since NoB w W1) W1 W2 k ∧ k ≠ l) = S at hL
  have HL := Lib.hid hL
  clear hl0 hl2 hm2 hd2 HOP HDS hL
  go_wp2_with fail
  refine (awake_calls _).mono ?_
  rintro e W3 ⟨rfl, hm3⟩
  have HL3 := Lib.hid (HL.out.quiet hm3)
  clear hm3 HL
  have hpv : PV w (W3.alloc (.cells #[.slice none 0 0, .slice none 0 0, .int .i64 0, .int .i64 0, .string ⟨#[]⟩, .int .i64 0] 27)) S p l W3.heap.size (.slice none 0 0) (.slice none 0 0) (pd 0 none) emptyLog Md.zero :=
    ⟨(HL3.out.quiet ((Mod.refl _ _).alloc _)).holds (fun k hk => by
      rcases hk with rfl | hk | hk
      · exact ⟨by rw [size_alloc]; omega, HL3.out.fresh (Nat.le_refl _)⟩
      · cases hk
      · cases hk), heap_alloc_new _ _, recs_nil rfl, recs_nil rfl, fun e => (by cases e), fun e => (by cases e), HL3.out.mod.size⟩
  have HPV := Lib.hid hpv
  clear hpv HL3
  go_wp2_with fail
  generalize W3.alloc (.cells #[.slice none 0 0, .slice none 0 0, .int .i64 0, .int .i64 0, .string ⟨#[]⟩, .int .i64 0] 27) = W4 at *
  generalize W3.heap.size = C at *
  have HIN : Hid (∃ S v1 v2 g m c o, PV w W4 S p l C v1 v2 (pd c o) g m ∧ PP 0 g m c o) := ⟨_, _, _, _, _, _, _, HPV.out, PP.first⟩
  clear HPV
  go_loopw [4, 8] (fun lp i wr => ∃ k l : Nat, k ≤ ls.length ∧ k ≤ 50 ∧ i = .int .i64 k ∧ lp = .pointer (some ⟨l, 0, none⟩) ∧ Hid (∃ S v1 v2 g m c o, PV w wr S p l C v1 v2 (pd c o) g m ∧ PP k g m c o)) (fun _ i _ => ls.length - (intOf i).toNat)
  case atStart => exact ⟨0, l, by omega, by omega, rfl, rfl, HIN⟩
  case round =>
    obtain ⟨k, l, hkl, hk50, rfl, rfl, HREL⟩ := hrel
    by_cases hlt : k < ls.length ∧ k < 50
    · obtain ⟨hlt, hlt50⟩ := hlt
      obtain ⟨S, v1, v2, g, m, c, o, hV, hP⟩ := HREL.out
      obtain ⟨a1, n1, c1, rfl⟩ := hV.r1.shape
      obtain ⟨a2, n2, c2, rfl⟩ := hV.r2.shape
      obtain ⟨b, q, rfl, hb, e0, e1, e2, e3, e4, e5, e6, hst, hsl, hss, hn0, hn1⟩ := HC.out k hlt
      have hM := hV.ld.mod
      rw [← World.cell?_of_block (w := w) (hM.block b hb id)] at e0 e1 e2 e3 e4 e5 e6
      have hbw := Nat.lt_of_lt_of_le hb hM.size
      generalize ls[k] = A at *
      obtain ⟨kind, nn, ss, lv, lss, f0, f1, f2⟩ := A
      simp only at e0 e1 e2 e3 e4 e5 e6 hst hsl hss hn0 hn1
      have hlvs : ∃ al nl cl, lv = .slice al nl cl := by obtain ⟨x, y, rfl, _⟩ := hst; exact ⟨_, _, _, rfl⟩
      obtain ⟨al, nl, cl, rfl⟩ := hlvs
      have HV := Lib.hid hV
      have HP := Lib.hid hP
      have HST := Lib.hid hst
      have HSL := Lib.hid hsl
      clear hV hP hst hsl hM HREL HIN
      have hVa := HV.out.quiet ((Mod.refl NoB wr).alloc (.cells #[.int .i64 kind, .int .i64 nn, .string ⟨ss.toArray⟩, .slice al nl cl, .int .i64 f0, .int .i64 f1, .int .i64 f2] 64))
      have hda : (wr.alloc (.cells #[.int .i64 kind, .int .i64 nn, .string ⟨ss.toArray⟩, .slice al nl cl, .int .i64 f0, .int .i64 f1, .int .i64 f2] 64)).heap[wr.heap.size]? = some (.cells #[.int .i64 kind, .int .i64 nn, .string ⟨ss.toArray⟩, .slice al nl cl, .int .i64 f0, .int .i64 f1, .int .i64 f2] 64 (0, 0)) := heap_alloc_new _ _
      have HDA := Lib.hid hda
      have HVA := Lib.hid hVa
      have HDF : Hid (¬ S wr.heap.size ∧ wr.heap.size ≠ l ∧ wr.heap.size ≠ C) := ⟨(HV.out.ld.fresh (Nat.le_refl _)).1, (HV.out.ld.fresh (Nat.le_refl _)).2, fun e => by have := lt_heap HV.out.box; omega⟩
      clear hVa hda HV
      go_upto_block 2 with fail
      generalize wr.alloc (.cells #[.int .i64 kind, .int .i64 nn, .string ⟨ss.toArray⟩, .slice al nl cl, .int .i64 f0, .int .i64 f1, .int .i64 f2] 64) = Wa at *
      generalize wr.heap.size = D at *
      go_cut [4] from 36 to 228 (fun lp wx => ∃ l2 : Nat, lp = .pointer (some ⟨l2, 0, none⟩) ∧ Hid (∃ S v1 v2 g m c o, PV w wx S p l2 C v1 v2 (pd c o) g m ∧ PP (k + 1) g m c o))
      case first =>
        rename_i J K2 h1 h2
        by_cases q3 : kind = 3
        · subst q3
          refine wp_loudQ (fun _ _ _ _ h => h) (play_k3 w Wa S p l C D k c o g m a1 a2 al n1 c1 n2 c2 nl cl nn f0 f1 f2 ss lss HVA.out HDA.out HDF.out HP.out hlt50 HST.out HSL.out hss hn0 hn1 _ _ _ _ _ _ _ _ _ _ _ _ _ _ _ _ _ _ _ _ _ _ _ _ _ _ _ _ _ _ _ _ _ _ _ _ _ _ _ _ _ _ _ _ _ _ _ _ _ _ _ _ _ _ _ _ _ _ _ _ _ _ _ _ _ _ _ _ _ _ _ _ _ _ _ _ _ _ _ _ _ _ _ _ _ _ _ _ _ _ _ _ _ _ _ _ _ _ _ _ _ _ _ _ _ _ _ _ _ _ _ _ _ _ _ _ _ _ _ _ _ _ _ _ _ _ _ _ _ _ _ _ _ _ _ _ _ _ _ _ _ _ _ _ _ _ _ _ _ _ _ _ _ _ _ _ _ _ _ _ _ _ _ _ _ _ _ _ _ _ _ _ _ _ _ _ _ _ _ _ _ _ _ _ _ _ _ _ _ _ _ _ _ _ _ _ _ _ _ _ _ _ _ _ _ _ _ _ _ _ _ _ _ _ _ _ _ _ _ _ _ _ _ _ _ _ ?_)
          intros
          rename_i hz
          refine h2 _ _ (Met.intro (h1 _ _ ?_))
          repeat apply Exists.intro
          exact ⟨hz, rfl⟩
        · by_cases q4 : kind = 4
          · subst q4
            refine wp_loudQ (fun _ _ _ _ h => h) (play_k4 w Wa S p l C D k c o g m a1 a2 al n1 c1 n2 c2 nl cl nn f0 f1 f2 ss lss HVA.out HDA.out HDF.out HP.out hlt50 HST.out HSL.out hss hn0 hn1 _ _ _ _ _ _ _ _ _ _ _ _ _ _ _ _ _ _ _ _ _ _ _ _ _ _ _ _ _ _ _ _ _ _ _ _ _ _ _ _ _ _ _ _ _ _ _ _ _ _ _ _ _ _ _ _ _ _ _ _ _ _ _ _ _ _ _ _ _ _ _ _ _ _ _ _ _ _ _ _ _ _ _ _ _ _ _ _ _ _ _ _ _ _ _ _ _ _ _ _ _ _ _ _ _ _ _ _ _ _ _ _ _ _ _ _ _ _ _ _ _ _ _ _ _ _ _ _ _ _ _ _ _ _ _ _ _ _ _ _ _ _ _ _ _ _ _ _ _ _ _ _ _ _ _ _ _ _ _ _ _ _ _ _ _ _ _ _ _ _ _ _ _ _ _ _ _ _ _ _ _ _ _ _ _ _ _ _ _ _ _ _ _ _ _ _ _ _ _ _ _ _ _ _ _ _ _ _ _ _ _ _ _ _ _ _ _ _ _ _ _ _ _ _ _ _ ?_)
            intros
            rename_i hz
            refine h2 _ _ (Met.intro (h1 _ _ ?_))
            repeat apply Exists.intro
            exact ⟨hz, rfl⟩
          · by_cases q5 : kind = 5
            · subst q5
              refine wp_loudQ (fun _ _ _ _ h => h) (play_k5 w Wa S p l C D k c o g m a1 a2 al n1 c1 n2 c2 nl cl nn f0 f1 f2 ss lss HVA.out HDA.out HDF.out HP.out hlt50 HST.out HSL.out hss hn0 hn1 _ _ _ _ _ _ _ _ _ _ _ _ _ _ _ _ _ _ _ _ _ _ _ _ _ _ _ _ _ _ _ _ _ _ _ _ _ _ _ _ _ _ _ _ _ _ _ _ _ _ _ _ _ _ _ _ _ _ _ _ _ _ _ _ _ _ _ _ _ _ _ _ _ _ _ _ _ _ _ _ _ _ _ _ _ _ _ _ _ _ _ _ _ _ _ _ _ _ _ _ _ _ _ _ _ _ _ _ _ _ _ _ _ _ _ _ _ _ _ _ _ _ _ _ _ _ _ _ _ _ _ _ _ _ _ _ _ _ _ _ _ _ _ _ _ _ _ _ _ _ _ _ _ _ _ _ _ _ _ _ _ _ _ _ _ _ _ _ _ _ _ _ _ _ _ _ _ _ _ _ _ _ _ _ _ _ _ _ _ _ _ _ _ _ _ _ _ _ _ _ _ _ _ _ _ _ _ _ _ _ _ _ _ _ _ _ _ _ _ _ _ _ _ _ _ _ ?_)
              intros
              rename_i hz
              refine h2 _ _ (Met.intro (h1 _ _ ?_))
              repeat apply Exists.intro
              exact ⟨hz, rfl⟩
            · by_cases q6 : kind = 6
              · subst q6
                refine wp_loudQ (fun _ _ _ _ h => h) (play_k6 w Wa S p l C D k c o g m a1 a2 al n1 c1 n2 c2 nl cl nn f0 f1 f2 ss lss HVA.out HDA.out HDF.out HP.out hlt50 HST.out HSL.out hss hn0 hn1 _ _ _ _ _ _ _ _ _ _ _ _ _ _ _ _ _ _ _ _ _ _ _ _ _ _ _ _ _ _ _ _ _ _ _ _ _ _ _ _ _ _ _ _ _ _ _ _ _ _ _ _ _ _ _ _ _ _ _ _ _ _ _ _ _ _ _ _ _ _ _ _ _ _ _ _ _ _ _ _ _ _ _ _ _ _ _ _ _ _ _ _ _ _ _ _ _ _ _ _ _ _ _ _ _ _ _ _ _ _ _ _ _ _ _ _ _ _ _ _ _ _ _ _ _ _ _ _ _ _ _ _ _ _ _ _ _ _ _ _ _ _ _ _ _ _ _ _ _ _ _ _ _ _ _ _ _ _ _ _ _ _ _ _ _ _ _ _ _ _ _ _ _ _ _ _ _ _ _ _ _ _ _ _ _ _ _ _ _ _ _ _ _ _ _ _ _ _ _ _ _ _ _ _ _ _ _ _ _ _ _ _ _ _ _ _ _ _ _ _ _ _ _ _ _ _ ?_)
                intros
                rename_i hz
                refine h2 _ _ (Met.intro (h1 _ _ ?_))
                repeat apply Exists.intro
                exact ⟨hz, rfl⟩
              · by_cases q7 : kind = 7
                · subst q7
                  refine wp_loudQ (fun _ _ _ _ h => h) (play_k7 w Wa S p l C D k c o g m a1 a2 al n1 c1 n2 c2 nl cl nn f0 f1 f2 ss lss HVA.out HDA.out HDF.out HP.out hlt50 HST.out HSL.out hss hn0 hn1 _ _ _ _ _ _ _ _ _ _ _ _ _ _ _ _ _ _ _ _ _ _ _ _ _ _ _ _ _ _ _ _ _ _ _ _ _ _ _ _ _ _ _ _ _ _ _ _ _ _ _ _ _ _ _ _ _ _ _ _ _ _ _ _ _ _ _ _ _ _ _ _ _ _ _ _ _ _ _ _ _ _ _ _ _ _ _ _ _ _ _ _ _ _ _ _ _ _ _ _ _ _ _ _ _ _ _ _ _ _ _ _ _ _ _ _ _ _ _ _ _ _ _ _ _ _ _ _ _ _ _ _ _ _ _ _ _ _ _ _ _ _ _ _ _ _ _ _ _ _ _ _ _ _ _ _ _ _ _ _ _ _ _ _ _ _ _ _ _ _ _ _ _ _ _ _ _ _ _ _ _ _ _ _ _ _ _ _ _ _ _ _ _ _ _ _ _ _ _ _ _ _ _ _ _ _ _ _ _ _ _ _ _ _ _ _ _ _ _ _ _ _ _ _ _ _ ?_)
                  intros
                  rename_i hz
                  refine h2 _ _ (Met.intro (h1 _ _ ?_))
                  repeat apply Exists.intro
                  exact ⟨hz, rfl⟩
                · by_cases q8 : kind = 8
                  · subst q8
                    refine wp_loudQ (fun _ _ _ _ h => h) (play_k8 w Wa S p l C D k c o g m a1 a2 al n1 c1 n2 c2 nl cl nn f0 f1 f2 ss lss HVA.out HDA.out HDF.out HP.out hlt50 HST.out HSL.out hss hn0 hn1 _ _ _ _ _ _ _ _ _ _ _ _ _ _ _ _ _ _ _ _ _ _ _ _ _ _ _ _ _ _ _ _ _ _ _ _ _ _ _ _ _ _ _ _ _ _ _ _ _ _ _ _ _ _ _ _ _ _ _ _ _ _ _ _ _ _ _ _ _ _ _ _ _ _ _ _ _ _ _ _ _ _ _ _ _ _ _ _ _ _ _ _ _ _ _ _ _ _ _ _ _ _ _ _ _ _ _ _ _ _ _ _ _ _ _ _ _ _ _ _ _ _ _ _ _ _ _ _ _ _ _ _ _ _ _ _ _ _ _ _ _ _ _ _ _ _ _ _ _ _ _ _ _ _ _ _ _ _ _ _ _ _ _ _ _ _ _ _ _ _ _ _ _ _ _ _ _ _ _ _ _ _ _ _ _ _ _ _ _ _ _ _ _ _ _ _ _ _ _ _ _ _ _ _ _ _ _ _ _ _ _ _ _ _ _ _ _ _ _ _ _ _ _ _ _ _ ?_)
                    intros
                    rename_i hz
                    refine h2 _ _ (Met.intro (h1 _ _ ?_))
                    repeat apply Exists.intro
                    exact ⟨hz, rfl⟩
                  · refine wp_loudQ (fun _ _ _ _ h => h) (play_kd w Wa S p l C D k c o g m a1 a2 al n1 c1 n2 c2 nl cl kind nn f0 f1 f2 ss lss HVA.out HDA.out HDF.out HP.out hlt50 HST.out HSL.out hss hn0 hn1 q3 q4 q5 q6 q7 q8 _ _ _ _ _ _ _ _ _ _ _ _ _ _ _ _ _ _ _ _ _ _ _ _ _ _ _ _ _ _ _ _ _ _ _ _ _ _ _ _ _ _ _ _ _ _ _ _ _ _ _ _ _ _ _ _ _ _ _ _ _ _ _ _ _ _ _ _ _ _ _ _ _ _ _ _ _ _ _ _ _ _ _ _ _ _ _ _ _ _ _ _ _ _ _ _ _ _ _ _ _ _ _ _ _ _ _ _ _ _ _ _ _ _ _ _ _ _ _ _ _ _ _ _ _ _ _ _ _ _ _ _ _ _ _ _ _ _ _ _ _ _ _ _ _ _ _ _ _ _ _ _ _ _ _ _ _ _ _ _ _ _ _ _ _ _ _ _ _ _ _ _ _ _ _ _ _ _ _ _ _ _ _ _ _ _ _ _ _ _ _ _ _ _ _ _ _ _ _ _ _ _ _ _ _ _ _ _ _ _ _ _ _ _ _ _ _ _ _ _ _ _ _ _ _ _ ?_)
                    intros
                    rename_i hz
                    refine h2 _ _ (Met.intro (h1 _ _ ?_))
                    repeat apply Exists.intro
                    exact ⟨hz, rfl⟩
      case rest =>
        obtain ⟨l2, rfl, HR⟩ := hcut
        obtain ⟨S2, v1, v2, g2, m2, c2', o2, hV, hP2⟩ := HR.out
        obtain ⟨a3, n3, c3, rfl⟩ := hV.r1.shape
        obtain ⟨a4, n4, c4, rfl⟩ := hV.r2.shape
        obtain ⟨xb, x0, x1, x2, x3, x4, x5, xf⟩ := hV.box.facts
        have hk0 := hP2.size
        have hk2 := hP2.mks
        have hk3 := hP2.cnt
        have hk4 := hP2.holds.long
        have hk5 := hP2.holds.more
        have hk6 := hP2.holds.marks
        have hsm := same_calls l2 p w.heap.size w.heap.size g2 _ _ m2 wc hV.ld.log hV.r1 hV.r2 (by omega) (hP2.agree (by omega)) (by omega) (by omega) (by omega)
        have HSM := Lib.hid hsm
        have HV2 := Lib.hid hV
        have HP2 := Lib.hid hP2
        clear hsm hV hP2 HR HVA HDA HDF hk0 hk2 hk3 hk4 hk5 hk6
        go_wp2_with fail
        refine HSM.out.mono ?_
        rintro e wn ⟨rfl, hmn⟩
        have HR2 : Hid (∃ S v1 v2 g m c o, PV w wn S p l2 C v1 v2 (pd c o) g m ∧ PP (k + 1) g m c o) := ⟨_, _, _, _, _, _, _, HV2.out.quiet hmn, HP2.out⟩
        clear hmn HSM HV2 HP2 x0 x1 x2 x3 x4 x5 xf xb
        go_wp2_with fail
        exact ⟨⟨k + 1, l2, by omega, by omega, by go_num, rfl, HR2⟩, by simp [intOf]; omega⟩
    · by_cases h1 : k < ls.length
      · have h2 : k = 50 := by omega
        subst h2
        have HM : Hid (Mod NoB w wr) := by obtain ⟨S, v1, v2, g, m, c, o, hV, _⟩ := HREL.out; exact hV.ld.mod
        go_wp2_with fail
        go_ret
        exact ⟨rfl, HM.out⟩
      · have HM : Hid (Mod NoB w wr) := by obtain ⟨S, v1, v2, g, m, c, o, hV, _⟩ := HREL.out; exact hV.ld.mod
        go_wp2_with fail
        go_ret
        exact ⟨rfl, HM.out⟩

end Go.Proofs.Ytgofngilfdnakaa
