/-
  This text proves what cupellaw03.DiskKeeps answers: under bounds that every argument keeps.
-/
import Derived.Test.YtgofngilfdnakaaKeepF
namespace Go.Proofs.Ytgofngilfdnakaa
open Go Go.RowKit
attribute [local go_sem] over_cell over_frozen lt_over le_over noB loudUpon ByteArray.mk_append_mk ByteArray.extract_mk

structure ActD where
  kind : Int
  name : Str
  tt : Str
  s : Str
  n : Int
  f0 : Int
  f1 : Int
  f2 : Int
def Acts3In (w : World) (v : Value) (ls : List ActD) : Prop := ∃ a cap, v = .slice a ls.length cap ∧ ls.length ≤ cap ∧ cap ≤ maxLen ∧ ∀ i, (hi : i < ls.length) → ∃ b o, a = some ⟨b, o, none⟩ ∧ b < w.heap.size ∧
  w.cell? ⟨b, o + i * 8, none⟩ = some (.int .i64 ls[i].kind) ∧ w.cell? ⟨b, o + i * 8 + 1, none⟩ = some (.string ⟨ls[i].name.toArray⟩) ∧ w.cell? ⟨b, o + i * 8 + 2, none⟩ = some (.string ⟨ls[i].tt.toArray⟩) ∧ w.cell? ⟨b, o + i * 8 + 3, none⟩ = some (.string ⟨ls[i].s.toArray⟩) ∧
  w.cell? ⟨b, o + i * 8 + 4, none⟩ = some (.int .i64 ls[i].n) ∧ w.cell? ⟨b, o + i * 8 + 5, none⟩ = some (.int .i64 ls[i].f0) ∧ w.cell? ⟨b, o + i * 8 + 6, none⟩ = some (.int .i64 ls[i].f1) ∧ w.cell? ⟨b, o + i * 8 + 7, none⟩ = some (.int .i64 ls[i].f2) ∧
  ls[i].name.length ≤ 9223372036854775807 ∧ ls[i].tt.length ≤ 9223372036854775807 ∧ ls[i].s.length ≤ 9223372036854775807
theorem do_any (p : Nat) (S : Nat → Prop) (d : Dk) (sv lv : Value) (F : Files) (L : List Chg) (ch k : Nat) (kz : Int) (h0 : 0 ≤ kz) (h6 : kz < 6) (n f0 f1 f2 : Int) (a b s : Str) (w : World) (h : KS w p S d sv lv F L ch k) (hk : k ≤ 100)
    (ha : a.length ≤ 9223372036854775807) (hb : b.length ≤ 9223372036854775807) (hs : s.length ≤ 9223372036854775807) :
    Calls Try.prog 61 #[bothV p sv lv ch, .agg #[.int .i64 kz, .string ⟨a.toArray⟩, .string ⟨b.toArray⟩, .string ⟨s.toArray⟩, .int .i64 n, .int .i64 f0, .int .i64 f1, .int .i64 f2]] w (DidA w p S (k + 1)) := by
  by_cases h5 : kz = 5
  · subst h5
    exact do_sync p S d sv lv F L ch k n f0 f1 f2 a b s w h hk
  · exact (do_chg p S d sv lv F L ch k kz.toNat kz (by omega) (by omega) n f0 f1 f2 a b s w h hk ha hb hs).mono (fun _ _ h => h.all)

/-- What goes on. -/
def KL (w : World) (p B k : Nat) (wr : World) : Prop := ∃ S d x1 y1 z1 x2 y2 z2 F L ch, wr.heap[B]? = some (.cells #[.pointer (some ⟨p, 0, none⟩), .slice x1 y1 z1, .slice x2 y2 z2, .int .i64 (-1), .slice none 0 0, .int .i64 (ch : Nat), .bool false] 101 (0, 0)) ∧
  KS wr p S d (.slice x1 y1 z1) (.slice x2 y2 z2) F L ch k ∧ (∀ q, S q → w.heap.size ≤ q ∧ q ≠ B) ∧ Mod NoB w wr
theorem KL.mono {w wr : World} {p B k k' : Nat} (h : KL w p B k wr) (hk : k ≤ k') : KL w p B k' wr := by
  obtain ⟨S, d, x1, y1, z1, x2, y2, z2, F, L, ch, h1, h2, h3⟩ := h
  exact ⟨S, d, x1, y1, z1, x2, y2, z2, F, L, ch, h1, h2.mono hk, h3⟩
theorem KS.shape {w : World} {p : Nat} {S : Nat → Prop} {d : Dk} {sv lv : Value} {F : Files} {L : List Chg} {ch k : Nat} (h : KS w p S d sv lv F L ch k) : (∃ x y z, sv = .slice x y z) ∧ ∃ x y z, lv = .slice x y z := by
  letI : Away := ⟨S⟩
  obtain ⟨x, y, e, _⟩ := FR.cells h.fr
  obtain ⟨x', y', e', _⟩ := CR.cells h.cr
  exact ⟨⟨_, _, _, e⟩, ⟨_, _, _, e'⟩⟩
/-- The both's block is laid anew. -/
theorem KS.laid {w w' : World} {p B : Nat} {S : Nat → Prop} {d : Dk} {sv lv : Value} {F : Files} {L : List Chg} {ch k : Nat} {cs : Array Value} (h : KS w p S d sv lv F L ch k) (hm : Mod (fun q => q = B) w w') (hB : ¬ S B) (hc : w.heap[B]? = some (.cells cs 101 (0, 0))) : KS w' p S d sv lv F L ch k :=
  ⟨h.disk.mod hm (fun q hq e => hB (e ▸ hq)), @FR.upd ⟨S⟩ _ _ _ _ _ h.fr hm (fun q hq (e : q = B) => absurd (row_type h.fr.1 hq (e ▸ hc)) (by decide)), @CR.upd ⟨S⟩ _ _ _ _ _ h.cr hm (fun q hq (e : q = B) => absurd (row_type h.cr.1 hq (e ▸ hc)) (by decide)), h.rel, h.bb⟩

theorem KS.mod {w w' : World} {p : Nat} {S : Nat → Prop} {d : Dk} {sv lv : Value} {F : Files} {L : List Chg} {ch k : Nat} (h : KS w p S d sv lv F L ch k) (hm : Mod NoB w w') : KS w' p S d sv lv F L ch k :=
  ⟨h.disk.mod hm (fun _ _ => id), @FR.mod ⟨S⟩ _ _ _ _ h.fr hm, @CR.mod ⟨S⟩ _ _ _ _ h.cr hm, h.rel, h.bb⟩
/-- A step's value and world. -/
def DidU (w : World) (p : Nat) (S : Nat → Prop) (k : Nat) (u : Value) (w' : World) : Prop :=
  ∃ S' d' x1 y1 z1 x2 y2 z2 F' L' ch' r, u = .tuple #[bothV p (.slice x1 y1 z1) (.slice x2 y2 z2) ch', .bool r] ∧ KS w' p S' d' (.slice x1 y1 z1) (.slice x2 y2 z2) F' L' ch' k ∧ Mod S w w' ∧ ∀ q, S' q → S q ∨ w.heap.size ≤ q
theorem DidA.fn {w : World} {p : Nat} {S : Nat → Prop} {k : Nat} {e : Ending} {w' : World} (h : DidA w p S k e w') : ∃ u, e = .returned u ∧ DidU w p S k u w' := by
  obtain ⟨S', d', sv', lv', F', L', ch', r, h1, h2, h3⟩ := h
  obtain ⟨⟨x1, y1, z1, rfl⟩, ⟨x2, y2, z2, rfl⟩⟩ := h2.shape
  exact ⟨_, h1, S', d', x1, y1, z1, x2, y2, z2, F', L', ch', r, rfl, h2, h3⟩

/-- What goes on behind the first Sync: vs holds what was sure then. -/
def KM (w : World) (p B : Nat) (vs : Value) (G : Files) (k : Nat) (wr : World) : Prop := ∃ S d x1 y1 z1 x2 y2 z2 L ch, wr.heap[B]? = some (.cells #[.pointer (some ⟨p, 0, none⟩), .slice x1 y1 z1, .slice x2 y2 z2, .int .i64 (-1), .slice none 0 0, .int .i64 (ch : Nat), .bool false] 101 (0, 0)) ∧
  KS wr p S d (.slice x1 y1 z1) (.slice x2 y2 z2) G L ch k ∧ @FR ⟨S⟩ wr vs G ∧ (∀ q, S q → w.heap.size ≤ q ∧ q ≠ B) ∧ Mod NoB w wr
theorem KM.mono {w wr : World} {p B k k' : Nat} {vs : Value} {G : Files} (h : KM w p B vs G k wr) (hk : k ≤ k') : KM w p B vs G k' wr := by
  obtain ⟨S, d, x1, y1, z1, x2, y2, z2, L, ch, h1, h2, h3⟩ := h
  exact ⟨S, d, x1, y1, z1, x2, y2, z2, L, ch, h1, h2.mono hk, h3⟩
theorem KM.next {w wr X Y : World} {p B k : Nat} {vs : Value} {G : Files} {S S' : Nat → Prop} {d : Dk} {x1 : Option Addr} {y1 z1 : Nat} {x2 : Option Addr} {y2 z2 : Nat} {L : List Chg} {ch : Nat} {cs : Array Value} (hwB : w.heap.size ≤ B) (hBr : B < wr.heap.size) (hmw : Mod NoB w wr) (hS : ∀ q, S q → w.heap.size ≤ q ∧ q ≠ B)
    (hvs : @FR ⟨S⟩ wr vs G) (hk : KS X p S' d (.slice x1 y1 z1) (.slice x2 y2 z2) G L ch k) (hm : Mod S wr X) (hS' : ∀ q, S' q → S q ∨ wr.heap.size ≤ q) (hX : X.heap[B]? = some (.cells cs 101 (0, 0)))
    (hY : Y.heap[B]? = some (.cells #[.pointer (some ⟨p, 0, none⟩), .slice x1 y1 z1, .slice x2 y2 z2, .int .i64 (-1), .slice none 0 0, .int .i64 (ch : Nat), .bool false] 101 (0, 0))) (hmY : Mod (fun q => q = B) X Y) : KM w p B vs G k Y := by
  have hB' : ∀ q, S' q → w.heap.size ≤ q ∧ q ≠ B := fun q hq => by
    rcases hS' q hq with h | h
    · exact hS q h
    · have := hmw.size
      exact ⟨by omega, by omega⟩
  have hvX : @FR ⟨S'⟩ X vs G := ⟨ownsRow_mod hvs.1 hm (fun q hq => @OutS.off ⟨S⟩ _ _ hvs.2 q hq), @OutS.mk ⟨S'⟩ _ _ (fun q hq hs => by
    rcases hS' q hs with h | h
    · exact @OutS.off ⟨S⟩ _ _ hvs.2 q hq h
    · have := (hvs.1.lt q hq).2
      omega) (@OutS.old ⟨S'⟩ _ _ hk.fr.2)⟩
  exact ⟨S', d, x1, y1, z1, x2, y2, z2, L, ch, hY, hk.laid hmY (fun hb => (hB' B hb).2 rfl) hX, @FR.upd ⟨S'⟩ _ _ _ _ _ hvX hmY (fun q hq (e : q = B) => absurd (row_type hvX.1 hq (e ▸ hX)) (by decide)), hB', (hmw.trans hm (fun q hq hs => by have := (hS q hs).1; omega)).trans hmY (fun q hq e => by omega)⟩
/-- A change's value and world. -/
def DidV (w : World) (p : Nat) (S : Nat → Prop) (x1 : Option Addr) (y1 z1 : Nat) (F : Files) (k : Nat) (u : Value) (w' : World) : Prop :=
  ∃ S' d' x2 y2 z2 L' ch' r, u = .tuple #[bothV p (.slice x1 y1 z1) (.slice x2 y2 z2) ch', .bool r] ∧ KS w' p S' d' (.slice x1 y1 z1) (.slice x2 y2 z2) F L' ch' k ∧ Mod S w w' ∧ ∀ q, S' q → S q ∨ w.heap.size ≤ q
theorem DidK.fn2 {w X : World} {p : Nat} {S : Nat → Prop} {F : Files} {x1 : Option Addr} {y1 z1 : Nat} {k : Nat} {e : Ending} {w' : World} (hX : Mod NoB w X) (h : DidK X p S F (.slice x1 y1 z1) k e w') : ∃ u, e = .returned u ∧ DidV w p S x1 y1 z1 F k u w' := by
  obtain ⟨S', d', lv', L', ch', r, h1, h2, h3, h4⟩ := h
  obtain ⟨_, ⟨x2, y2, z2, rfl⟩⟩ := h2.shape
  exact ⟨_, h1, S', d', x2, y2, z2, L', ch', r, rfl, h2, (hX.mono (noB_sub S _)).trans h3 (fun _ _ h => h), fun q hq => by
    rcases h4 q hq with h5 | h5
    · exact .inl h5
    · exact .inr (Nat.le_trans hX.size h5)⟩
theorem DidA.fn2 {w X : World} {p : Nat} {S : Nat → Prop} {k : Nat} {e : Ending} {w' : World} (hX : Mod NoB w X) (h : DidA X p S k e w') : ∃ u, e = .returned u ∧ DidU w p S k u w' := by
  obtain ⟨u, he, S', d', x1, y1, z1, x2, y2, z2, F', L', ch', r, h1, h2, h3, h4⟩ := h.fn
  exact ⟨u, he, S', d', x1, y1, z1, x2, y2, z2, F', L', ch', r, h1, h2, (hX.mono (noB_sub S _)).trans h3 (fun _ _ h => h), fun q hq => by
    rcases h4 q hq with h5 | h5
    · exact .inl h5
    · exact .inr (Nat.le_trans hX.size h5)⟩

theorem KL.next {w wr X Y : World} {p B k : Nat} {S S' : Nat → Prop} {d : Dk} {x1 : Option Addr} {y1 z1 : Nat} {x2 : Option Addr} {y2 z2 : Nat} {F : Files} {L : List Chg} {ch : Nat} {cs : Array Value} (hwB : w.heap.size ≤ B) (hBr : B < wr.heap.size) (hmw : Mod NoB w wr) (hS : ∀ q, S q → w.heap.size ≤ q ∧ q ≠ B)
    (hk : KS X p S' d (.slice x1 y1 z1) (.slice x2 y2 z2) F L ch k) (hm : Mod S wr X) (hS' : ∀ q, S' q → S q ∨ wr.heap.size ≤ q) (hX : X.heap[B]? = some (.cells cs 101 (0, 0)))
    (hY : Y.heap[B]? = some (.cells #[.pointer (some ⟨p, 0, none⟩), .slice x1 y1 z1, .slice x2 y2 z2, .int .i64 (-1), .slice none 0 0, .int .i64 (ch : Nat), .bool false] 101 (0, 0))) (hmY : Mod (fun q => q = B) X Y) : KL w p B k Y := by
  have hB' : ∀ q, S' q → w.heap.size ≤ q ∧ q ≠ B := fun q hq => by
    rcases hS' q hq with h | h
    · exact hS q h
    · have := hmw.size
      exact ⟨by omega, by omega⟩
  exact ⟨S', d, x1, y1, z1, x2, y2, z2, F, L, ch, hY, hk.laid hmY (fun hb => (hB' B hb).2 rfl) hX, hB', (hmw.trans hm (fun q hq hs => by have := (hS q hs).1; omega)).trans hmY (fun q hq e => by omega)⟩

set_option maxRecDepth 100000 in
set_option maxHeartbeats 12800000 in
theorem DiskKeeps_calls (v v' : Value) (ls ms : List ActD) (keep : Int) (w : World) (h : Acts3In w v ls) (h' : Acts3In w v' ms) (hk0 : -9223372036854775808 ≤ keep) (hk1 : keep ≤ 9223372036854775807) :
    Calls Try.prog 11 #[v, v', .int .i64 keep] w fun e w' => e = .returned (.bool true) ∧ Mod NoB w w' := by
  obtain ⟨al, cl, rfl, hlc, hcm, hl⟩ := h
  obtain ⟨am, cm, rfl, hmc, hcm2, hm⟩ := h'
  have HLS := Lib.hid hl
  have HMS := Lib.hid hm
  clear hl hm
  go_enter Try.func11, Try.ntmps11
  go_wp2_with fail
  refine (New_calls _).mono ?_
  rintro e W ⟨rfl, hm1, hd1⟩
  generalize w.heap.size + 2 = p at *
  have hfresh : BR Dk.fresh [] [] 0 := ⟨rfl, rfl, rfl, rfl, rfl, rfl, rfl, List.Pairwise.nil, (fun c hc => by cases hc), (fun c hc => by cases hc), (fun c hc => by cases hc)⟩
  have HINI : Hid (KL w p W.heap.size 0 (W.alloc (.cells #[.pointer (some ⟨p, 0, none⟩), .slice none 0 0, .slice none 0 0, .int .i64 (-1), .slice none 0 0, .int .i64 0, .bool false] 101))) := by
    have hal : Mod NoB W (W.alloc (.cells #[.pointer (some ⟨p, 0, none⟩), .slice none 0 0, .slice none 0 0, .int .i64 (-1), .slice none 0 0, .int .i64 0, .bool false] 101)) := (Mod.refl _ _).alloc _
    have hold : ∀ q, Since NoB w W q → q < W.heap.size := fun q hq => by
      rcases hq with hq | hq
      · exact hq.elim
      · exact hq.2
    refine ⟨Since NoB w W, Dk.fresh, _, _, _, _, _, _, [], [], 0, heap_alloc_new _ _, ⟨hd1.mod hal (fun _ _ => id), @FR.mod ⟨_⟩ _ _ _ _ (fr_nil hold) hal, @CR.mod ⟨_⟩ _ _ _ _ (cr_nil hold) hal, hfresh, ⟨Nat.le_refl _, Nat.le_refl _, Nat.le_refl _⟩⟩, fun q hq => ?_, hm1.trans hal (fun _ _ h => h)⟩
    rcases hq with hq | hq
    · exact hq.elim
    · exact ⟨hq.1, fun e => by omega⟩
  have hwB : w.heap.size ≤ W.heap.size := hm1.size
  clear hm1 hd1 hfresh
  go_upto_block 0 with fail
  generalize hWA : W.alloc (.cells #[.pointer (some ⟨p, 0, none⟩), .slice none 0 0, .slice none 0 0, .int .i64 (-1), .slice none 0 0, .int .i64 0, .bool false] 101) = WA at *
  have hBA : W.heap.size < WA.heap.size := by rw [← hWA, size_alloc]; omega
  clear hWA
  generalize W.heap.size = B at *
  go_cut [8] from 12 (fun _ wx => Hid (KL w p B 30 wx))
  case first =>
    go_wp2_with fail
    go_loopw [8] (fun i wr => ∃ k : Nat, k ≤ ls.length ∧ k ≤ 30 ∧ i = .int .i64 k ∧ Hid (KL w p B k wr)) (fun i _ => ls.length - (intOf i).toNat)
    case atStart => exact ⟨0, by omega, by omega, rfl, HINI⟩
    case round =>
      obtain ⟨k, hk, hk30, rfl, HK⟩ := hrel
      by_cases hlt : k < ls.length
      · by_cases h30 : k < 30
        · obtain ⟨b, o, rfl, hb, e0, e1, e2, e3, e4, e5, e6, e7, n1, n2, n3⟩ := HLS.out k hlt
          obtain ⟨S, d, x1, y1, z1, x2, y2, z2, F, L, ch, hB, hks, hS, hmw⟩ := HK.out
          rw [← World.cell?_of_block (w := w) (hmw.block b hb id)] at e0 e1 e2 e3 e4 e5 e6 e7
          have hbr := Nat.lt_of_lt_of_le hb hmw.size
          generalize ls[k] = A at *
          obtain ⟨kd, nm, tt, s, n, f0, f1, f2⟩ := A
          simp only at e0 e1 e2 e3 e4 e5 e6 e7 n1 n2 n3
          by_cases h0 : 0 ≤ kd
          · by_cases h6 : kd < 6
            · have HDO := Lib.hid (fun X (hX : Mod NoB wr X) => (do_any p S d _ _ F L ch k kd h0 h6 n f0 f1 f2 nm tt s X (hks.mod hX) (by omega) n1 n2 n3).mono (fun _ _ h => DidA.fn2 hX h))
              obtain ⟨db, d0, d1, d2, d3, d4, d5, d6, df⟩ := Both7.facts hB
              have HB := Lib.hid hB
              have HS := Lib.hid hS
              have HMW := Lib.hid hmw
              clear hks hB hS hmw HK
              go_upto_region 6 with fail
              go_region_law (first
                | (refine step_fn rfl 61 (fun _ _ => by kernel_rfl) #[.tmp 40, .tmp 44] #[101, 103] rfl (vs := #[.agg #[.pointer (some ⟨p, 0, none⟩), .slice x1 y1 z1, .slice x2 y2 z2, .int .i64 (-1), .slice none 0 0, .int .i64 ch, .bool false], .agg #[.int .i64 kd, .string ⟨nm.toArray⟩, .string ⟨tt.toArray⟩, .string ⟨s.toArray⟩, .int .i64 n, .int .i64 f0, .int .i64 f1, .int .i64 f2]]) rfl (HDO.out _ (by (repeat (first | with_reducible exact Mod.refl _ _ | with_reducible refine Mod.drew ?_ | with_reducible refine Mod.alloc ?_ _)))) ?_
                   rintro u X2 hr
                   obtain ⟨S', d', x3, y3, z3, x4, y4, z4, F', L', ch', r, rfl, hks', hm', hS'⟩ := hr
                   have hB2 := (hm'.block B db (fun hq => (HS.out _ hq).2 rfl)).trans HB.out
                   obtain ⟨gb, g0, g1, g2, g3, g4, g5, g6, gf⟩ := Both7.facts hB2))
              all_goals go_wp2_with fail
              all_goals
                go_roundw
                case rel =>
                  refine ⟨k + 1, by omega, by omega, by go_num, Lib.hid (KL.next hwB db HMW.out HS.out hks' hm' hS' hB2 ?_ ?_)⟩
                  · simp only [heap_setCell, if_true, hB2, Option.map_some, setAt_cells, List.setIfInBounds_toArray, List.set_cons_zero, List.set_cons_succ]
                  · repeat (first | with_reducible exact Mod.refl _ _ | ((with_reducible refine Mod.setCell ?_ _ _ ?_); rotate_left; (intro _; rfl)))
                case measure => simp [intOf]; omega
            · go_wp2_with fail
              go_roundw
              case rel => exact ⟨k + 1, by omega, by omega, by go_num, Lib.hid (HK.out.mono (by omega))⟩
              case measure => simp [intOf]; omega
          · go_wp2_with fail
            go_roundw
            case rel => exact ⟨k + 1, by omega, by omega, by go_num, Lib.hid (HK.out.mono (by omega))⟩
            case measure => simp [intOf]; omega
        · go_wp2_with fail
          go_meet
          exact Lib.hid (HK.out.mono hk30)
      · go_wp2_with fail
        go_meet
        exact Lib.hid (HK.out.mono hk30)
  case rest =>
    obtain ⟨S, d, x1, y1, z1, x2, y2, z2, F, L, ch, hB, hks, hS, hmw⟩ := hcut.out
    generalize wc = X at *
    have hsy := hks.rel.sync
    have HBR := Lib.hid hsy.2
    have HBB := Lib.hid (hks.bb.sync hks.rel)
    have HDS := Lib.hid (Sync_calls p S d X hks.disk)
    rw [hsy.1] at HDS
    have hbl := hks.bb.len
    have hbz := hks.bb.size
    have HRS : Hid (∀ S' Y, @FR ⟨S'⟩ Y (.slice x1 y1 z1) F → @CR ⟨S'⟩ Y (.slice x2 y2 z2) L → Calls Try.prog 62 #[.agg #[.slice x1 y1 z1, .slice x2 y2 z2, .int .i64 (-1), .slice none 0 0, .int .i64 ch, .bool false]] Y fun e w' => ∃ v', e = .returned (.tuple #[.agg #[v', .slice none 0 0, .int .i64 (-1), .slice none 0 0, .int .i64 ch, .bool false], .int .i64 0]) ∧ @FR ⟨S'⟩ w' v' (L.foldl Files.act F) ∧ Mod NoB Y w') := fun S' Y hF hL =>
      @rsync_calls ⟨S'⟩ _ _ (.slice none 0 0) F L (-1) ch Y hF hL hks.rel.sorted hks.rel.ok (by omega) (by omega) ⟨_, _, _, rfl⟩
    have HKS := Lib.hid hks
    have hsorted := hsy.2.sorted
    have hbb2 := (hks.bb.sync hks.rel).len
    have hbb3 := (hks.bb.sync hks.rel).size
    obtain ⟨db, d0, d1, d2, d3, d4, d5, d6, df⟩ := Both7.facts hB
    have HB := Lib.hid hB
    have HS := Lib.hid hS
    have HMW := Lib.hid hmw
    clear hks hsy hB hS hmw hcut hbl hbz
    generalize d.sync.2 = d' at *
    generalize L.foldl Files.act F = G at *
    simp only [List.length_nil, Nat.add_zero, Nat.mul_zero] at hbb2 hbb3
    go_wp2_with fail
    refine HDS.out.mono ?_
    rintro e U ⟨rfl, hmU, hdU⟩
    have hBU := (hmU.block _ db (fun hq => (HS.out _ hq).2 rfl)).trans HB.out
    have HFU := Lib.hid (fr_since HKS.out.fr hmU)
    have HCU := Lib.hid (cr_since HKS.out.cr hmU)
    have HDU := Lib.hid hdU
    have HMU := Lib.hid hmU
    have HRT := Lib.hid (HRS.out _ _ HFU.out HCU.out)
    clear d0 d1 d2 d3 d4 d5 d6 df HDS HRS HB hmU hdU
    have hbX := db
    obtain ⟨ub, d0, d1, d2, d3, d4, d5, d6, df⟩ := Both7.facts hBU
    have HBU := Lib.hid hBU
    clear hBU
    go_wp2_with fail
    refine HRT.out.mono ?_
    rintro e Z ⟨v', rfl, hfz, hmZ⟩
    have hlv' : ∃ c, v' = .slice c G.length 0 ∨ ∃ z, v' = .slice c G.length z := by
      letI : Away := ⟨Since S X U⟩
      obtain ⟨x, y, e, _⟩ := FR.cells hfz
      exact ⟨_, .inr ⟨_, e⟩⟩
    have hlv2 : ∃ c z, v' = .slice c G.length z := by
      obtain ⟨c, h | ⟨z, h⟩⟩ := hlv'
      · exact ⟨_, _, h⟩
      · exact ⟨_, _, h⟩
    obtain ⟨x3, z3, rfl⟩ := hlv2
    have hBZ := (hmZ.block _ ub id).trans HBU.out
    have HFZ := Lib.hid hfz
    have HMZ := Lib.hid hmZ
    clear d0 d1 d2 d3 d4 d5 d6 df HRT HBU hfz hmZ HFU HCU hlv' ub
    obtain ⟨zb, d0, d1, d2, d3, d4, d5, d6, df⟩ := Both7.facts hBZ
    have HBZ := Lib.hid hBZ
    clear hBZ
    go_upto_region 10 with fail
    refine at_world (P := Code.wp _ _ _ _) (fun V => V.heap[B]? = some (.cells #[.pointer (some ⟨p, 0, none⟩), .slice x3 G.length z3, .slice none 0 0, .int .i64 (-1), .slice none 0 0, .int .i64 ch, .bool false] 101 (0, 0)) ∧ Mod (fun k => k = B) Z V) ?_ ?_
    · refine ⟨?_, ?_⟩
      · simp only [heap_setCell, if_true, HBZ.out, Option.map_some, setAt_cells, List.setIfInBounds_toArray, List.set_cons_zero, List.set_cons_succ]
      · repeat (first | with_reducible exact Mod.refl _ _ | ((with_reducible refine Mod.setCell ?_ _ _ ?_); rotate_left; (intro _; rfl)))
    · rintro V ⟨hBV, hmV⟩
      have hnB : ¬ Since S X U B := fun h => by
        rcases h with h | ⟨h, _⟩
        · exact (HS.out _ h).2 rfl
        · omega
      have hKV : KS V p (Since S X U) d' (.slice x3 G.length z3) (.slice none 0 0) G [] ch 30 := by
        have hUZ : KS Z p (Since S X U) d' (.slice x3 G.length z3) (.slice none 0 0) G [] ch 30 := ⟨HDU.out.mod HMZ.out (fun _ _ => id), HFZ.out, cr_nil (@OutS.old ⟨Since S X U⟩ _ _ HFZ.out.2), HBR.out, HBB.out⟩
        exact hUZ.laid hmV hnB HBZ.out
      have HNW := Lib.hid (@rnow_calls ⟨Since S X U⟩ (.slice x3 G.length z3) (.slice none 0 0) (.slice none 0 0) G [] (-1) ch false V hKV.fr hKV.cr hsorted (fun c hc => by cases hc) (by simp only [List.length_nil]; omega) (by simp only [List.length_nil]; omega) ⟨_, _, _, rfl⟩)
      have hmwU : Mod NoB w U := HMW.out.trans HMU.out (fun q hq hs => by have := (HS.out q hs).1; omega)
      have hmwV : Mod NoB w V := (hmwU.trans HMZ.out (fun _ _ h => h)).trans hmV (fun q hq e => by omega)
      have hSU : ∀ q, Since S X U q → w.heap.size ≤ q ∧ q ≠ B := fun q hq => ⟨by
        rcases hq with hq | ⟨hq, _⟩
        · exact (HS.out q hq).1
        · have := HMW.out.size; omega, fun e => hnB (e ▸ hq)⟩
      have HKV := Lib.hid hKV
      have HSU := Lib.hid hSU
      have HMV := Lib.hid hmwV
      clear hKV hSU hmwU hmwV d0 d1 d2 d3 d4 d5 d6 df HKS HBR HBB HS HMW HDU HMU HFZ HMZ HBZ hmV hnB zb db hbX hsorted
      obtain ⟨vb, d0, d1, d2, d3, d4, d5, d6, df⟩ := Both7.facts hBV
      have HBV := Lib.hid hBV
      clear hBV
      go_wp2_with fail
      refine HNW.out.mono ?_
      rintro e V2 ⟨v9, rfl, hf9, hm9⟩
      have hf9' : @FR ⟨Since S X U⟩ V2 v9 G := hf9
      have hKM : KM w p B v9 G 30 V2 := ⟨Since S X U, d', _, _, _, _, _, _, [], ch, (hm9.block _ vb id).trans HBV.out, HKV.out.mod hm9, hf9', HSU.out, HMV.out.trans hm9 (fun _ _ h => h)⟩
      have HKM := Lib.hid hKM
      have hv9 : ∃ a c, v9 = .slice a G.length c := by
        letI : Away := ⟨Since S X U⟩
        obtain ⟨x, y, e, _⟩ := FR.cells hf9'
        exact ⟨_, _, e⟩
      obtain ⟨a9, c9, rfl⟩ := hv9
      clear hf9 hf9' hm9 hKM HKV HSU HMV HBV HNW d0 d1 d2 d3 d4 d5 d6 df vb
      go_upto_block 2 with fail
      go_cut [10] from 12 (fun _ wx => Hid (KM w p B (.slice a9 G.length c9) G 60 wx))
      case first =>
        go_wp2_with fail
        go_loopw [10] (fun i wr => ∃ k : Nat, k ≤ ms.length ∧ k ≤ 30 ∧ i = .int .i64 k ∧ Hid (KM w p B (.slice a9 G.length c9) G (30 + k) wr)) (fun i _ => ms.length - (intOf i).toNat)
        case atStart => exact ⟨0, by omega, by omega, rfl, HKM⟩
        case round =>
          obtain ⟨k, hk, hk30, rfl, HK⟩ := hrel
          by_cases hlt : k < ms.length
          · by_cases h30 : k < 30
            · obtain ⟨b, o, rfl, hb, e0, e1, e2, e3, e4, e5, e6, e7, n1, n2, n3⟩ := HMS.out k hlt
              obtain ⟨S, d, x1, y1, z1, x2, y2, z2, L, ch, hB, hks, hvs, hS, hmw⟩ := HK.out
              rw [← World.cell?_of_block (w := w) (hmw.block b hb id)] at e0 e1 e2 e3 e4 e5 e6 e7
              have hbr := Nat.lt_of_lt_of_le hb hmw.size
              generalize ms[k] = A at *
              obtain ⟨kd, nm, tt, s, n, f0, f1, f2⟩ := A
              simp only at e0 e1 e2 e3 e4 e5 e6 e7 n1 n2 n3
              by_cases h0 : 0 ≤ kd
              · by_cases h6 : kd < 5
                · have HDO := Lib.hid (fun X (hX : Mod NoB wr X) => (do_chg p S d _ _ G L ch (30 + k) kd.toNat kd (by omega) (by omega) n f0 f1 f2 nm tt s X (hks.mod hX) (by omega) n1 n2 n3).mono (fun _ _ h => DidK.fn2 hX h))
                  obtain ⟨db, d0, d1, d2, d3, d4, d5, d6, df⟩ := Both7.facts hB
                  have HB := Lib.hid hB
                  have HS := Lib.hid hS
                  have HMW := Lib.hid hmw
                  have HVS := Lib.hid hvs
                  clear hks hB hS hmw hvs HK
                  go_upto_region 15 with fail
                  go_region_law (first
                    | (refine step_fn rfl 61 (fun _ _ => by kernel_rfl) #[.tmp 87, .tmp 91] #[101, 103] rfl (vs := #[.agg #[.pointer (some ⟨p, 0, none⟩), .slice x1 y1 z1, .slice x2 y2 z2, .int .i64 (-1), .slice none 0 0, .int .i64 ch, .bool false], .agg #[.int .i64 kd, .string ⟨nm.toArray⟩, .string ⟨tt.toArray⟩, .string ⟨s.toArray⟩, .int .i64 n, .int .i64 f0, .int .i64 f1, .int .i64 f2]]) rfl (HDO.out _ (by (repeat (first | with_reducible exact Mod.refl _ _ | with_reducible refine Mod.drew ?_ | with_reducible refine Mod.alloc ?_ _)))) ?_
                       rintro u X2 hr
                       obtain ⟨S', d', x4, y4, z4, L', ch', r, rfl, hks', hm', hS'⟩ := hr
                       have hB2 := (hm'.block B db (fun hq => (HS.out _ hq).2 rfl)).trans HB.out
                       obtain ⟨gb, g0, g1, g2, g3, g4, g5, g6, gf⟩ := Both7.facts hB2))
                  all_goals go_wp2_with fail
                  all_goals
                    go_roundw
                    case rel =>
                      refine ⟨k + 1, by omega, by omega, by go_num, Lib.hid (KM.next hwB db HMW.out HS.out HVS.out hks' hm' hS' hB2 ?_ ?_)⟩
                      · simp only [heap_setCell, if_true, hB2, Option.map_some, setAt_cells, List.setIfInBounds_toArray, List.set_cons_zero, List.set_cons_succ]
                      · repeat (first | with_reducible exact Mod.refl _ _ | ((with_reducible refine Mod.setCell ?_ _ _ ?_); rotate_left; (intro _; rfl)))
                    case measure => simp [intOf]; omega
                · go_wp2_with fail
                  go_roundw
                  case rel => exact ⟨k + 1, by omega, by omega, by go_num, Lib.hid (HK.out.mono (by omega))⟩
                  case measure => simp [intOf]; omega
              · go_wp2_with fail
                go_roundw
                case rel => exact ⟨k + 1, by omega, by omega, by go_num, Lib.hid (HK.out.mono (by omega))⟩
                case measure => simp [intOf]; omega
            · go_wp2_with fail
              go_meet
              exact Lib.hid (HK.out.mono (by omega))
          · go_wp2_with fail
            go_meet
            exact Lib.hid (HK.out.mono (by omega))
      case rest =>
        obtain ⟨S, d, x1, y1, z1, x2, y2, z2, L, ch, hB, hks, hvs, hS, hmw⟩ := hcut.out
        generalize wc = X at *
        have hll : L.length ≤ 60 := by have := hks.bb.len; omega
        have HCL := Lib.hid (CloneM_calls p S d X hks.disk (by rw [hks.rel.loose, List.length_map]; omega))
        have hfit := hks.rel.fit hks.bb (by omega)
        have HC0 : Hid (∀ q S1 Y, Disk Y q S1 d → Calls Try.prog 37 #[.pointer (some ⟨q, 0, none⟩), .int .i64 0, .int .i64 0] Y fun e w' => e = .returned (.tuple #[]) ∧ Mod S1 Y w' ∧ Disk w' q (Since S1 Y w') (d.crash 0 0)) := fun q S1 Y hY => Crash_calls q S1 d 0 0 _ Y hY hfit.le (by omega)
        have HC1 : Hid (∀ Y, Disk Y p S d → Calls Try.prog 37 #[.pointer (some ⟨p, 0, none⟩), .int .i64 keep, .int .i64 0] Y fun e w' => e = .returned (.tuple #[]) ∧ Mod S Y w' ∧ Disk w' p (Since S Y w') (d.crash keep 0)) := fun Y hY => Crash_calls p S d keep 0 _ Y hY hfit.le (by omega)
        obtain ⟨db, d0, d1, d2, d3, d4, d5, d6, df⟩ := Both7.facts hB
        have HBX := Lib.hid db
        have HB := Lib.hid hB
        have HS := Lib.hid hS
        have HMW := Lib.hid hmw
        have HVS := Lib.hid hvs
        have HKS := Lib.hid hks
        clear hks hB hS hmw hvs hcut HKM hfit
        go_wp2_with fail
        refine HCL.out.mono ?_
        rintro e X1 ⟨q, rfl, hm1, hd1⟩
        have hB1 := (hm1.block _ db id).trans HB.out
        have HM1 := Lib.hid hm1
        have HC2 := Lib.hid (HC0.out q _ X1 hd1)
        clear HCL HC0 hm1 hd1 d0 d1 d2 d3 d4 d5 d6 df
        go_wp2_with fail
        refine HC2.out.mono ?_
        rintro e X2 ⟨rfl, hm2, hd2⟩
        have HUP := Lib.hid (Up_calls q _ _ X2 hd2)
        have HM2 := Lib.hid hm2
        clear hm2 hd2 HC2
        go_wp2_with fail
        refine HUP.out.mono ?_
        rintro e X3 ⟨rfl, hm3, hd3⟩
        have hs1 := HM1.out.size
        have hs2 := HM2.out.size
        have hm12 : Mod NoB X X2 := HM1.out.trans HM2.out (fun k hk h => by
          rcases h with h | ⟨h, _⟩
          · exact h
          · omega)
        have hm13 : Mod NoB X X3 := hm12.trans hm3 (fun k hk h => by
          rcases h with (h | ⟨h, _⟩) | ⟨h, _⟩
          · exact h
          · omega
          · omega)
        have hs3 := hm3.size
        have hS2 : ∀ k, Since (Since NoB X X1) X1 X2 k → X.heap.size ≤ k ∧ k < X3.heap.size := fun k h => by
          rcases h with (h | ⟨h, h'⟩) | ⟨h, h'⟩
          · exact h.elim
          · exact ⟨h, by omega⟩
          · exact ⟨by omega, by omega⟩
        have HVR : Hid (∀ q, (Value.slice a9 G.length c9).ownBlock = some q → q < X.heap.size ∧ ¬ S q ∧ q ≠ B) := fun q hq => ⟨(HVS.out.1.lt q hq).2, @OutS.off ⟨S⟩ _ _ HVS.out.2 q hq, fun e => absurd (row_type HVS.out.1 hq (e ▸ HB.out)) (by decide)⟩
        have HK3 := Lib.hid (HKS.out.mod hm13)
        have HV3 : Hid (@FR ⟨S⟩ X3 (.slice a9 G.length c9) G) := @FR.mod ⟨S⟩ _ _ _ _ HVS.out hm13
        have hB3 := (hm13.block _ db id).trans HB.out
        have HD3 := Lib.hid hd3
        have HS2 := Lib.hid hS2
        have HM3 := Lib.hid (HMW.out.trans hm13 (fun _ _ h => h))
        have hbx3 : B < X3.heap.size := lt_heap hB3
        have HBR0 := Lib.hid (HKS.out.rel.crash 0)
        have HBB0 := Lib.hid (HKS.out.bb.crash HKS.out.rel 0)
        rw [keptL_zero] at HBR0 HBB0
        generalize Since (Since NoB X X1) X1 X2 = S2 at *
        have hold2 : ∀ k, S k → k < X.heap.size := @OutS.old ⟨S⟩ _ _ HKS.out.fr.2
        have HOLD2 := Lib.hid hold2
        clear hm12 hm13 hS2 hd3 hm3 hold2 HUP HM1 HM2 HKS HVS HB HMW hB1
        obtain ⟨b3, d0, d1, d2, d3, d4, d5, d6, df⟩ := Both7.facts hB3
        have HB3 := Lib.hid hB3
        have HC3 := Lib.hid (HC1.out X3 HK3.out.disk)
        clear hB3 HC1
        go_wp2_with fail
        refine HC3.out.mono ?_
        rintro e X4 ⟨rfl, hm4, hd4⟩
        have hB4 := (hm4.block _ b3 (fun h => (HS.out _ h).2 rfl)).trans HB3.out
        have HUP2 := Lib.hid (Up_calls p _ _ X4 hd4)
        have HM4 := Lib.hid hm4
        clear hm4 hd4 HC3 d0 d1 d2 d3 d4 d5 d6 df
        obtain ⟨b4, d0, d1, d2, d3, d4, d5, d6, df⟩ := Both7.facts hB4
        go_wp2_with fail
        refine HUP2.out.mono ?_
        rintro e X5 ⟨rfl, hm5, hd5⟩
        have hF4 := fr_since HK3.out.fr HM4.out
        have hC4 := cr_since HK3.out.cr HM4.out
        have hV4 := fr_since HV3.out HM4.out
        have hF5 : @FR ⟨Since S X3 X4⟩ X5 (.slice x1 y1 z1) G := @FR.upd ⟨Since S X3 X4⟩ _ _ _ _ _ hF4 hm5 (fun k hk => @OutS.off ⟨Since S X3 X4⟩ _ _ hF4.2 k hk)
        have hC5 : @CR ⟨Since S X3 X4⟩ X5 (.slice x2 y2 z2) L := @CR.upd ⟨Since S X3 X4⟩ _ _ _ _ _ hC4 hm5 (fun k hk => @OutS.off ⟨Since S X3 X4⟩ _ _ hC4.2 k hk)
        have hbl := HK3.out.bb.len
        have hbz := HK3.out.bb.size
        have HRC := Lib.hid (@rcrash_calls ⟨Since S X3 X4⟩ _ _ (.slice none 0 0) G L keep (-1) ch X5 hF5 hC5 HK3.out.rel.sorted HK3.out.rel.ok (by omega) (by omega) ⟨_, _, _, rfl⟩ hk0 hk1)
        have hB5 := (hm5.block _ b4 (fun h => by
          rcases h with h | ⟨h, _⟩
          · exact (HS.out _ h).2 rfl
          · omega)).trans hB4
        have HB5 := Lib.hid hB5
        have HM5 := Lib.hid hm5
        have HD5 := Lib.hid hd5
        clear hF4 hC4 hF5 hC5 hB4 hm5 hd5 d0 d1 d2 d3 d4 d5 d6 df
        obtain ⟨b5, d0, d1, d2, d3, d4, d5, d6, df⟩ := Both7.facts hB5
        clear hB5
        go_wp2_with fail
        refine HRC.out.mono ?_
        rintro e X6 ⟨v6, rfl, hf6, hm6⟩
        have hv6 : ∃ x y z, v6 = .slice x y z := by
          letI : Away := ⟨Since S X3 X4⟩
          obtain ⟨x, y, e, _⟩ := FR.cells hf6
          exact ⟨_, _, _, e⟩
        obtain ⟨x6, y6, z6, rfl⟩ := hv6
        have hB6 := (hm6.block _ b5 id).trans HB5.out
        have HB6 := Lib.hid hB6
        have HF6 := Lib.hid hf6
        have HM6 := Lib.hid hm6
        clear d0 d1 d2 d3 d4 d5 d6 df hf6 hm6 HRC HB5
        obtain ⟨b6, d0, d1, d2, d3, d4, d5, d6, df⟩ := Both7.facts hB6
        clear hB6
        go_upto_region 23 with fail
        refine at_world (P := Code.wp _ _ _ _) (fun V => V.heap[B]? = some (.cells #[.pointer (some ⟨p, 0, none⟩), .slice x6 y6 z6, .slice none 0 0, .int .i64 (-1), .slice none 0 0, .int .i64 ch, .bool false] 101 (0, 0)) ∧ Mod (fun k => k = B) X6 V) ?_ ?_
        · refine ⟨?_, ?_⟩
          · simp only [heap_setCell, if_true, HB6.out, Option.map_some, setAt_cells, List.setIfInBounds_toArray, List.set_cons_zero, List.set_cons_succ]
          · repeat (first | with_reducible exact Mod.refl _ _ | ((with_reducible refine Mod.setCell ?_ _ _ ?_); rotate_left; (intro _; rfl)))
        · rintro V ⟨hBV, hmV⟩
          have hK6 : KS X6 p (Since S X3 X4) _ (.slice x6 y6 z6) (.slice none 0 0) _ [] ch 60 := ⟨HD5.out.mod HM6.out (fun _ _ => id), HF6.out, cr_nil (@OutS.old ⟨Since S X3 X4⟩ _ _ HF6.out.2), HK3.out.rel.crash keep, HK3.out.bb.crash HK3.out.rel keep⟩
          have hnB : ¬ Since S X3 X4 B := fun h => by
            rcases h with h | ⟨h, _⟩
            · exact (HS.out _ h).2 rfl
            · omega
          have hKV := hK6.laid hmV hnB HB6.out
          have HSA := Lib.hid (fun Y (hY : Mod NoB V Y) => same3_calls p _ _ _ _ _ _ _ _ Y (hKV.mod hY) (by omega))
          clear d0 d1 d2 d3 d4 d5 d6 df
          obtain ⟨bv, d0, d1, d2, d3, d4, d5, d6, df⟩ := Both7.facts hBV
          go_wp2_with fail
          refine (awake3_calls _).mono ?_
          rintro e V1 ⟨rfl, hv1⟩
          have hBV1 := (hv1.block _ bv id).trans hBV
          have HV1 := Lib.hid hv1
          clear d0 d1 d2 d3 d4 d5 d6 df hv1
          obtain ⟨bw, d0, d1, d2, d3, d4, d5, d6, df⟩ := Both7.facts hBV1
          go_wp2_with fail
          refine (HSA.out _ HV1.out).mono ?_
          rintro e V2 ⟨rfl, hv2⟩
          have hT : Mod (fun k => S k ∨ k = B) X3 V2 := by
            have e1 : Mod S X3 X5 := HM4.out.trans HM5.out (fun k hk h => by
              rcases h with h | ⟨h, _⟩
              · exact h
              · omega)
            have e2 : Mod S X3 X6 := e1.trans HM6.out (fun k _ h => h.elim)
            have e3 : Mod (fun k => S k ∨ k = B) X3 V := (e2.mono (fun _ _ h => .inl h)).trans hmV (fun k _ h => .inr h)
            have e4 : Mod (fun k => S k ∨ k = B) X3 V1 := e3.trans HV1.out (fun k _ h => h.elim)
            exact e4.trans hv2 (fun k _ h => h.elim)
          have hBV2 := (hv2.block _ bw id).trans hBV1
          have hBX : B < X.heap.size := HBX.out
          have hdq := HD3.out.mod hT (fun k hk h => by
            have h1 := HS2.out k hk
            rcases h with h | h
            · have := HOLD2.out k h; omega
            · omega)
          have hfq : @FR ⟨S2⟩ X3 (.slice a9 G.length c9) G := ⟨HV3.out.1, @OutS.mk ⟨S2⟩ _ _ (fun k hk hs => by have h1 := (HVR.out k hk).1; have h2 := (HS2.out k hs).1; omega) (fun k hk => (HS2.out k hk).2)⟩
          have hfz : @FR ⟨S2⟩ V2 (.slice a9 G.length c9) G := @FR.upd ⟨S2⟩ _ _ _ _ _ hfq hT (fun k hk h => by
            have h1 := HVR.out k hk
            rcases h with h | h
            · exact h1.2.1 h
            · exact h1.2.2 h)
          have hKQ : KS V2 q S2 _ (.slice a9 G.length c9) (.slice none 0 0) G [] ch 60 := ⟨hdq, hfz, cr_nil (@OutS.old ⟨S2⟩ _ _ hfz.2), HBR0.out, HBB0.out⟩
          have HSB := Lib.hid (fun Y (hY : Mod NoB V2 Y) => same3_calls q _ _ _ _ _ _ _ _ Y (hKQ.mod hY) (by omega))
          have HFIN : Hid (Mod NoB w V2) := HM3.out.trans hT (fun k hk h => by
            rcases h with h | h
            · have := (HS.out k h).1; omega
            · omega)
          clear hKQ hfz hfq hdq hT hBX HSA hBV1 hBV hmV hnB d0 d1 d2 d3 d4 d5 d6 df bw bv
          obtain ⟨bw, d0, d1, d2, d3, d4, d5, d6, df⟩ := Both7.facts hBV2
          have HBV2 := Lib.hid hBV2
          clear hBV2 hv2
          go_wp2_with fail
          trace_state
          refine (HSB.out _ ?_).mono ?_
          · exact (by (repeat (first | with_reducible exact Mod.refl _ _ | with_reducible refine Mod.drew ?_ | with_reducible refine Mod.alloc ?_ _)))
          rintro e V3 ⟨rfl, hv3⟩
          have HF3 := Lib.hid (HFIN.out.trans hv3 (fun _ _ h => h))
          clear d0 d1 d2 d3 d4 d5 d6 df
          go_wp2_with fail
          go_ret
          exact ⟨rfl, HF3.out⟩

end Go.Proofs.Ytgofngilfdnakaa
