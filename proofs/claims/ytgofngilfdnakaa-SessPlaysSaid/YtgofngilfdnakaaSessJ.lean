/-
  This text proves what cupellaw20.SessPlays answers: under bounds that every argument keeps.
-/
import Derived.Test.YtgofngilfdnakaaSessK0
import Derived.Test.YtgofngilfdnakaaSessK5
import Derived.Test.YtgofngilfdnakaaSessK6
import Derived.Test.YtgofngilfdnakaaSessK7
import Derived.Test.YtgofngilfdnakaaSessKd
import Derived.Test.YtgofngilfdnakaaSess2
namespace Go.Proofs.Ytgofngilfdnakaa
open Go Go.RowKit
attribute [local go_sem] over_cell over_frozen lt_over le_over noB loudUpon

/-- What is done, in a slice. -/
structure Act20 where
  kind : Int
  s : Int
  n : Nat
def Acts20In (w : World) (v : Value) (ls : List Act20) : Prop := ∃ a cap, v = .slice a ls.length cap ∧ ls.length ≤ cap ∧ cap ≤ maxLen ∧ ∀ i, (hi : i < ls.length) → ∃ b o, a = some ⟨b, o, none⟩ ∧ b < w.heap.size ∧
  w.cell? ⟨b, o + i * 3, none⟩ = some (.int .i64 ls[i].kind) ∧ w.cell? ⟨b, o + i * 3 + 1, none⟩ = some (.int .i64 ls[i].s) ∧ w.cell? ⟨b, o + i * 3 + 2, none⟩ = some (.int .u32 ls[i].n) ∧ -9223372036854775808 ≤ ls[i].s ∧ ls[i].s ≤ 9223372036854775807

set_option maxRecDepth 100000 in
set_option maxHeartbeats 12800000 in
theorem SessPlays_calls (v : Value) (ls : List Act20) (w : World) (h : Acts20In w v ls) :
    Calls Try.prog 9 #[v] w fun e w' => e = .returned (.bool true) ∧ Mod NoB w w' := by
  obtain ⟨a, cap, rfl, hlc, hcm, hcell⟩ := h
  rw [maxLen_eq] at hcm
  have HC := Lib.hid hcell
  clear hcell
  go_enter Try.func9, Try.ntmps9
  go_wp2_with fail
  refine (SNew_calls w).mono ?_
  rintro e W1 ⟨rfl, hm1, ht1⟩
  have hlow : w.heap.size ≤ w.heap.size + 1 ∧ w.heap.size ≤ w.heap.size := by omega
  generalize ht : w.heap.size + 1 = t at ht1 hlow ⊢
  obtain ⟨b, hb⟩ : ∃ b, w.heap.size = b := ⟨_, rfl⟩
  have hts : TS w.heap.size W1 t b 0 [] := ⟨by rw [← hb]; exact ht1, List.Pairwise.nil, fun _ h => (by cases h), fun _ h => (by cases h), Nat.zero_le _, fun _ h => (by cases h), fun _ h => (by cases h), List.Pairwise.nil, by rw [← hb]; exact hlow⟩
  have HTS := Lib.hid hts
  have HM1 := Lib.hid hm1
  clear ht1 hts hm1 ht hb hlow
  go_wp2_with fail
  refine (awake20_calls _).mono ?_
  rintro e W3 ⟨rfl, hm3⟩
  have hmA : Mod NoB W3 (W3.alloc (.cells #[] 81)) := (Mod.refl _ _).alloc _
  have hm4 : Mod NoB W1 (W3.alloc (.cells #[] 81)) := hm3.trans hmA (fun _ _ h => h)
  have hps : PS w (W3.alloc (.cells #[] 81)) t b 0 (.slice (some ⟨W3.heap.size, 0, none⟩) 0 0) [] [] :=
    ⟨HM1.out.trans hm4 (fun _ _ h => h), HTS.out.mod' hm4 (fun _ _ => id), ⟨row_empty (heap_alloc_new _ _) (Nat.le_trans HM1.out.size hm3.size), fun _ h => (by cases h)⟩, fun q hq hb => by
      have h1 := (HTS.out.lt hq).2
      have h2 := hm3.size
      rcases hb with hb | ⟨_, hb, _⟩
      · simp only [Value.ownBlock, Option.some.injEq] at hb; omega
      · cases hb⟩
  have HIN : Hid (∃ k' Em Et, k' ≤ 0 ∧ PS w (W3.alloc (.cells #[] 81)) t b k' (.slice (some ⟨W3.heap.size, 0, none⟩) 0 0) Em Et ∧ pl Em = pl Et) := ⟨0, [], [], Nat.le_refl _, hps, rfl⟩
  clear hps hmA hm4 hm3 HTS HM1
  go_wp2_with fail
  generalize W3.alloc (.cells #[] 81) = W4 at *
  generalize W3.heap.size = g0 at *
  go_loopw [4, 5] (fun m i wr => ∃ k g nm cm : Nat, k ≤ ls.length ∧ k ≤ 200 ∧ i = .int .i64 k ∧ m = .slice (some ⟨g, 0, none⟩) nm cm ∧ Hid (∃ k' Em Et, k' ≤ k ∧ PS w wr t b k' (.slice (some ⟨g, 0, none⟩) nm cm) Em Et ∧ pl Em = pl Et)) (fun _ i _ => ls.length - (intOf i).toNat)
  case atStart => exact ⟨0, g0, 0, 0, by omega, by omega, rfl, rfl, HIN⟩
  case round =>
    obtain ⟨k, g, nm, cm, hkl, hk200, rfl, rfl, HREL⟩ := hrel
    by_cases hlt : k < ls.length ∧ k < 200
    · obtain ⟨hlt, hlt200⟩ := hlt
      obtain ⟨k', Em, Et, hk', hP, hPL⟩ := HREL.out
      obtain ⟨ba, q, rfl, hba, e0, e1, e2, hs0, hs1⟩ := HC.out k hlt
      have hM := hP.mod
      rw [← World.cell?_of_block (w := w) (hM.block ba hba id)] at e0 e1 e2
      have hbw := Nat.lt_of_lt_of_le hba hM.size
      generalize ls[k] = A at *
      obtain ⟨kind, s, n⟩ := A
      simp only at e0 e1 e2 hs0 hs1
      have hna : Mod NoB wr (wr.alloc (.cells #[.int .i64 kind, .int .i64 s, .int .u32 n] 75)) := (Mod.refl _ _).alloc _
      have hda : KA (wr.alloc (.cells #[.int .i64 kind, .int .i64 s, .int .u32 n] 75)) t b Et wr.heap.size #[.int .i64 kind, .int .i64 s, .int .u32 n] 75 := ⟨heap_alloc_new _ _, fun hq => by have := (hP.ts.lt hq).2; omega⟩
      have hlen := hP.ts.length
      have hlE := pl_len hPL
      have HFI := Lib.hid (find_calls w.heap.size _ Em s _ (hP.quiet hna).ms.ops (by omega))
      have HP := Lib.hid (hP.quiet hna)
      have HPL := Lib.hid hPL
      have HD := Lib.hid hda
      clear hP hPL hM hna hda HREL HIN hlen hlE
      go_wp2_with fail
      refine HFI.out.mono ?_
      rintro e Wa ⟨rfl, hma⟩
      have HV : Hid (PS w Wa t b k' (.slice (some ⟨g, 0, none⟩) nm cm) Em Et ∧ pl Em = pl Et) := ⟨HP.out.quiet hma, HPL.out⟩
      have HDA := Lib.hid (HD.out.quiet hma)
      obtain ⟨zb, z0, z1, z2, zf⟩ := Act3.facts HDA.out.cells
      clear HFI hma HP HPL HD
      go_upto_block 2 with fail
      clear z0 z1 z2 zf zb
      generalize wr.heap.size = D at *
      go_cut [4] from 46 to 195 (fun m wx => SG w wx t b D k' (.int .i64 kind) (.int .i64 s) (.int .u32 n) m)
      case first =>
        rename_i J K2 h1 h2
        by_cases q0 : kind = 0
        · subst q0
          refine wp_loudS (fun _ _ _ _ h => h) (sess_k0 w Wa t b D k' g nm cm (findAt Em s) n (isAt Em s) s Em Et HV.out.1 HV.out.2 HDA.out rfl rfl (by omega) hs0 hs1 _ _ _ _ _ _ _ _ _ _ _ _ _ _ _ _ _ _ _ _ _ _ _ _ _ _ _ _ _ _ _ _ _ _ _ _ _ _ _ _ _ _ _ _ _ _ _ _ _ _ _ _ _ _ _ _ _ _ _ _ _ _ _ _ _ _ _ _ _ _ _ _ _ _ _ _ _ _ _ _ _ _ _ _ _ _ _ _ _ _ _ _ _ _ _ _ _ _ _ _ _ _ _ _ _ _ _ _ _ _ _ _ _ _ _ _ _ _ _ _ _ _ _ _ _ _ _ _ _ _ _ _ _ _ _ _ _ _ _ _ _ _ _ _ _ _ _ _ _ _ _ _ _ _ _ _ _ _ _ _ _ _ _ _ _ _ _ _ _ _ _ _ _ _ _ _ _ _ _ _ _ _ _ _ _ _ _ _ _ _ _ _ _ _ _ _ _ _ ?_)
          intros
          rename_i hz
          refine h2 _ _ (Met.intro (h1 _ _ ?_))
          repeat apply Exists.intro
          exact ⟨hz, rfl⟩
        · skip
          by_cases q5 : kind = 5
          · subst q5
            refine wp_loudS (fun _ _ _ _ h => h) (sess_k5 w Wa t b D k' g nm cm (findAt Em s) n (isAt Em s) s Em Et HV.out.1 HV.out.2 HDA.out rfl rfl (by omega) hs0 hs1 _ _ _ _ _ _ _ _ _ _ _ _ _ _ _ _ _ _ _ _ _ _ _ _ _ _ _ _ _ _ _ _ _ _ _ _ _ _ _ _ _ _ _ _ _ _ _ _ _ _ _ _ _ _ _ _ _ _ _ _ _ _ _ _ _ _ _ _ _ _ _ _ _ _ _ _ _ _ _ _ _ _ _ _ _ _ _ _ _ _ _ _ _ _ _ _ _ _ _ _ _ _ _ _ _ _ _ _ _ _ _ _ _ _ _ _ _ _ _ _ _ _ _ _ _ _ _ _ _ _ _ _ _ _ _ _ _ _ _ _ _ _ _ _ _ _ _ _ _ _ _ _ _ _ _ _ _ _ _ _ _ _ _ _ _ _ _ _ _ _ _ _ _ _ _ _ _ _ _ _ _ _ _ _ _ _ _ _ _ _ _ _ _ _ _ _ _ _ ?_)
            intros
            rename_i hz
            refine h2 _ _ (Met.intro (h1 _ _ ?_))
            repeat apply Exists.intro
            exact ⟨hz, rfl⟩
          · skip
            by_cases q6 : kind = 6
            · subst q6
              refine wp_loudS (fun _ _ _ _ h => h) (sess_k6 w Wa t b D k' g nm cm (findAt Em s) n (isAt Em s) s Em Et HV.out.1 HV.out.2 HDA.out rfl rfl (by omega) hs0 hs1 _ _ _ _ _ _ _ _ _ _ _ _ _ _ _ _ _ _ _ _ _ _ _ _ _ _ _ _ _ _ _ _ _ _ _ _ _ _ _ _ _ _ _ _ _ _ _ _ _ _ _ _ _ _ _ _ _ _ _ _ _ _ _ _ _ _ _ _ _ _ _ _ _ _ _ _ _ _ _ _ _ _ _ _ _ _ _ _ _ _ _ _ _ _ _ _ _ _ _ _ _ _ _ _ _ _ _ _ _ _ _ _ _ _ _ _ _ _ _ _ _ _ _ _ _ _ _ _ _ _ _ _ _ _ _ _ _ _ _ _ _ _ _ _ _ _ _ _ _ _ _ _ _ _ _ _ _ _ _ _ _ _ _ _ _ _ _ _ _ _ _ _ _ _ _ _ _ _ _ _ _ _ _ _ _ _ _ _ _ _ _ _ _ _ _ _ _ _ ?_)
              intros
              rename_i hz
              refine h2 _ _ (Met.intro (h1 _ _ ?_))
              repeat apply Exists.intro
              exact ⟨hz, rfl⟩
            · skip
              by_cases q7 : kind = 7
              · subst q7
                refine wp_loudS (fun _ _ _ _ h => h) (sess_k7 w Wa t b D k' g nm cm (findAt Em s) n (isAt Em s) s Em Et HV.out.1 HV.out.2 HDA.out rfl rfl (by omega) hs0 hs1 _ _ _ _ _ _ _ _ _ _ _ _ _ _ _ _ _ _ _ _ _ _ _ _ _ _ _ _ _ _ _ _ _ _ _ _ _ _ _ _ _ _ _ _ _ _ _ _ _ _ _ _ _ _ _ _ _ _ _ _ _ _ _ _ _ _ _ _ _ _ _ _ _ _ _ _ _ _ _ _ _ _ _ _ _ _ _ _ _ _ _ _ _ _ _ _ _ _ _ _ _ _ _ _ _ _ _ _ _ _ _ _ _ _ _ _ _ _ _ _ _ _ _ _ _ _ _ _ _ _ _ _ _ _ _ _ _ _ _ _ _ _ _ _ _ _ _ _ _ _ _ _ _ _ _ _ _ _ _ _ _ _ _ _ _ _ _ _ _ _ _ _ _ _ _ _ _ _ _ _ _ _ _ _ _ _ _ _ _ _ _ _ _ _ _ _ _ _ ?_)
                intros
                rename_i hz
                refine h2 _ _ (Met.intro (h1 _ _ ?_))
                repeat apply Exists.intro
                exact ⟨hz, rfl⟩
              · skip
                refine wp_loudS (fun _ _ _ _ h => h) (sess_kd w Wa t b D k' g nm cm (findAt Em s) n (isAt Em s) kind s Em Et HV.out.1 HV.out.2 HDA.out rfl rfl (by omega) hs0 hs1 q0 q5 q6 q7 _ _ _ _ _ _ _ _ _ _ _ _ _ _ _ _ _ _ _ _ _ _ _ _ _ _ _ _ _ _ _ _ _ _ _ _ _ _ _ _ _ _ _ _ _ _ _ _ _ _ _ _ _ _ _ _ _ _ _ _ _ _ _ _ _ _ _ _ _ _ _ _ _ _ _ _ _ _ _ _ _ _ _ _ _ _ _ _ _ _ _ _ _ _ _ _ _ _ _ _ _ _ _ _ _ _ _ _ _ _ _ _ _ _ _ _ _ _ _ _ _ _ _ _ _ _ _ _ _ _ _ _ _ _ _ _ _ _ _ _ _ _ _ _ _ _ _ _ _ _ _ _ _ _ _ _ _ _ _ _ _ _ _ _ _ _ _ _ _ _ _ _ _ _ _ _ _ _ _ _ _ _ _ _ _ _ _ _ _ _ _ _ _ _ _ _ _ _ ?_)
                intros
                rename_i hz
                refine h2 _ _ (Met.intro (h1 _ _ ?_))
                repeat apply Exists.intro
                exact ⟨hz, rfl⟩
      case rest =>
        obtain ⟨g2, nm2, cm2, rfl, k2, Em2, Et2, hk2, hP2, hPL2, hD2⟩ := hcut
        have HSM := Lib.hid (same20_calls w wc t b k2 _ Em2 Et2 s hP2 hPL2 hs0 hs1)
        obtain ⟨zb, z0, z1, z2, zf⟩ := Act3.facts hD2.cells
        have HP2 := Lib.hid hP2
        have HPL2 := Lib.hid hPL2
        clear hP2 hPL2 hD2 HV HDA
        go_wp2_with fail
        refine HSM.out.mono ?_
        rintro e wn ⟨rfl, hmn⟩
        have HR2 : Hid (∃ k' Em Et, k' ≤ k + 1 ∧ PS w wn t b k' (.slice (some ⟨g2, 0, none⟩) nm2 cm2) Em Et ∧ pl Em = pl Et) := ⟨k2, Em2, Et2, by omega, HP2.out.quiet hmn, HPL2.out⟩
        clear hmn HSM HP2 HPL2 z0 z1 z2 zf zb
        go_wp2_with fail
        exact ⟨⟨k + 1, g2, nm2, cm2, by omega, by omega, by go_num, rfl, HR2⟩, by simp [intOf]; omega⟩
    · have HM : Hid (Mod NoB w wr) := by obtain ⟨k', Em, Et, _, hV, _⟩ := HREL.out; exact hV.mod
      clear HREL
      by_cases h1 : k < ls.length
      · have h2 : k = 200 := by omega
        subst h2
        go_wp2_with fail
        go_ret
        exact ⟨rfl, HM.out⟩
      · go_wp2_with fail
        go_ret
        exact ⟨rfl, HM.out⟩

end Go.Proofs.Ytgofngilfdnakaa
