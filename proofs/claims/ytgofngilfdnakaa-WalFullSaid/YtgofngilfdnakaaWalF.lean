/-
  This text proves what cupellaw04.WalFull answers: under bounds that every argument keeps.
-/
import Derived.Test.YtgofngilfdnakaaLawS
import Derived.Test.YtgofngilfdnakaaAwake4
import Derived.Deep.Cut
import Derived.Deep.CutRange
namespace Go.Proofs.Ytgofngilfdnakaa
open Go Go.RowKit
attribute [local go_sem] over_cell over_frozen lt_over le_over noB loudUpon ByteArray.mk_append_mk ByteArray.extract_mk drop_full

def firstS : Str := [102, 105, 114, 115, 116]
def firstB : Str := frame (109 :: firstS)
def firstM : Md := ⟨[], [], 14, 0, firstS, 1⟩
def firstG : Lg := ⟨firstB, [], firstS, 1⟩
theorem full_commit : Lg.commit emptyLog Dk.fresh firstS = (0, firstG, dk (-1) 1 firstB) := by kernel_rfl
theorem full_scan : scan firstB = (firstB.length, firstS, 1) := by kernel_rfl
theorem full_len : firstB.length = 14 := by kernel_rfl

/-- What holds at the head of a round. -/
structure FP (k : Nat) (g : Lg) (m : Md) (ch : Nat) : Prop where
  gw : g.wait = []
  mw : m.wait = []
  mm : m.more = 0
  holds : Holds g m
  whole : scan g.s = (g.s.length, g.root, g.marks)
  len : g.s.length ≤ 14 + k * 400
  chs : ch ≤ 1 + k
  mks : g.marks ≤ 1 + k
  cnt : m.sure.length ≤ k
theorem FP.first : FP 0 firstG firstM 1 where
  gw := rfl
  mw := rfl
  mm := rfl
  holds := Holds.zero.commit firstS
  whole := full_scan
  len := by rw [show firstG.s.length = 14 from full_len]; omega
  chs := Nat.le_refl _
  mks := Nat.le_refl _
  cnt := Nat.le_refl _
set_option maxRecDepth 10000 in
theorem FP.round {k ch : Nat} {g : Lg} {m : Md} {r : Int} {s : Str} (h : FP k g m ch) (hs : s.length ≤ 300) :
    (∃ g2 ch2, Lg.commit { g with wait := g.wait ++ frame (100 :: s) } (dk r ch g.s) [114] = (0, g2, dk r ch2 g2.s) ∧ FP (k + 1) g2 ((m.add s).commit [114]) ch2) ∨
    (Lg.commit { g with wait := g.wait ++ frame (100 :: s) } (dk r ch g.s) [114] = (31, g, dk r ch g.s) ∧ FP (k + 1) g m ch) := by
  obtain ⟨gw, mw, mm, hh, hw, hl, hc, hk, hn⟩ := h
  have hcm := dk_commit r ch { g with wait := g.wait ++ frame (100 :: s) } [114] (by decide)
  simp only at hcm
  have b1 : g.s.length ≤ 14 + (k + 1) * 400 := by omega
  have b2 : ch ≤ 1 + (k + 1) := by omega
  have b3 : g.marks ≤ 1 + (k + 1) := by omega
  have b4 : m.sure.length ≤ k + 1 := by omega
  rw [hcm]
  split
  · refine .inl ⟨_, _, rfl, rfl, rfl, rfl, (hh.add s (by omega)).commit [114], ?_, ?_, by omega, by simp only; omega, ?_⟩
    · have := scan_batch g.s g.root g.marks [s] [114] hw (fun y hy => by rw [List.mem_singleton.1 hy]; omega) (by show (1 : Nat) ≤ 2147483646; omega)
      simpa [gw, datas] using this
    · simp only [gw, List.length_append, frame_length, List.length_cons, List.length_nil]; omega
    · simp only [Md.commit, Md.add, mw, List.length_append, List.length_cons, List.length_nil]; omega
  · refine .inr ⟨?_, gw, mw, mm, hh, hw, b1, b2, b3, b4⟩
    obtain ⟨a, b, c, d⟩ := g
    simp only at gw
    subst gw
    rfl

set_option maxRecDepth 100000 in
set_option maxHeartbeats 6400000 in
theorem WalFull_calls (v : Value) (ls : List Str) (n : Int) (w : World) (h : StrsIn w v ls) (hs : ∀ s ∈ ls, s.length ≤ 9223372036854775807) (hn0 : -9223372036854775808 ≤ n) (hn1 : n ≤ 9223372036854775807) :
    Calls Try.prog 4 #[v, .int .i64 n] w fun e w' => e = .returned (.bool true) ∧ Mod NoB w w' := by
  obtain ⟨a, cap, rfl, hlc, hcm, hcell⟩ := h
  rw [maxLen_eq] at hcm
  have HC := Lib.hid hcell
  have HS := Lib.hid hs
  clear hcell hs
  go_enter Try.func4, Try.ntmps4
  go_wp2_with fail
  refine (New_calls w).mono ?_
  rintro e W1 ⟨rfl, hm1, hd1⟩
  generalize hp : w.heap.size + 2 = p at *
  clear hp
  have hop := Open_calls p _ Dk.fresh 0 W1 hd1 fit_fresh (by decide)
  rw [aw_open] at hop
  have HOP := Lib.hid hop
  have HM1 := Lib.hid hm1
  clear hop hm1 hd1
  go_wp2_with fail
  refine HOP.out.mono ?_
  rintro e W2 ⟨l, rfl, hl0, hl2, hm2, hd2⟩
  have hL : LD w W2 (fun _ => False) (fun k => (w.heap.size ≤ k ∧ k < W2.heap.size) ∧ k ≠ l) p l Dk.fresh emptyLog := by
    have hsz := HM1.out.size
    refine ⟨HM1.out.trans hm2 (fun k hk h => by rcases h with h | ⟨h, _⟩; exact h; omega), hd2.mono (fun k hk h => ⟨?_, h.2⟩), hl2, fun k h => h.1, Nat.le_trans hsz hl0, fun h => h.2 rfl, fun k h => h.elim⟩
    rcases h.1 with (h | ⟨h, _⟩) | ⟨h, _⟩
    · exact h.elim
    · exact ⟨h, hk⟩
    · exact ⟨Nat.le_trans hsz h, hk⟩
  obtain ⟨S, hS⟩ : ∃ S, (fun k => (w.heap.size ≤ k ∧ k < W2.heap.size) ∧ k ≠ l) = S := ⟨_, rfl⟩
  rw [hS] at hL
  clear hS
  have HL := Lib.hid hL
  clear hl0 hl2 hm2 hd2 HOP HM1 hL
  go_wp2_with fail
  refine (awake_calls _).mono ?_
  rintro e W3 ⟨rfl, hm3⟩
  have HL3 := Lib.hid (HL.out.quiet hm3)
  have hcm := LCommit_calls l p S Dk.fresh emptyLog firstS 0 W3 HL3.out.log HL3.out.disk HL3.out.sl fit_fresh (by decide) (by decide) (by decide) (by decide)
  rw [full_commit] at hcm
  have HCM := Lib.hid hcm
  clear hcm hm3 HL
  go_wp2_with fail
  refine HCM.out.mono ?_
  rintro e W4 ⟨rfl, hm4, hl4, hd4⟩
  have HL4 := Lib.hid (HL3.out.both hm4 hl4 hd4)
  generalize Since S W3 W4 = S4 at HL4
  clear hm4 hl4 hd4 HL3 HCM
  have hmc : ∀ X, Calls Try.prog 29 #[.agg #[.slice none 0 0, .slice none 0 0, .int .i64 0, .int .i64 0, .string ⟨#[]⟩, .int .i64 0], .string ⟨#[102, 105, 114, 115, 116]⟩] X fun e w' => ∃ v', e = .returned (.agg #[v', .slice none 0 0, .int .i64 firstM.long, .int .i64 firstM.more, .string ⟨firstM.root.toArray⟩, .int .i64 firstM.marks]) ∧ Mod NoB X w' ∧ RecsAt w' X.heap.size v' firstM.sure :=
    fun X => mcommit_calls 0 0 _ _ [] [] 0 0 0 [] firstS X ⟨rfl, .inl ⟨rfl, rfl⟩⟩ ⟨rfl, .inl ⟨rfl, rfl⟩⟩ (by decide) (by decide) (by decide) (by decide) (by decide)
  have hfp := FP.first
  have hgs : firstB = firstG.s := rfl
  rw [hgs] at HL4
  generalize firstM = m0 at *
  generalize firstG = g0 at *
  generalize 1 = ch0 at HL4 hfp
  clear hgs
  have HMC := Lib.hid hmc
  have HFP := Lib.hid hfp
  clear hmc hfp
  go_wp2_with fail
  refine (HMC.out _).mono ?_
  rintro e W5 ⟨v0, rfl, hm5, hr5⟩
  obtain ⟨a0, n0, c0, rfl⟩ := hr5.shape
  have HL5 : Hid (LD w (W5.alloc (.cells #[.slice a0 n0 c0, .slice none 0 0, .int .i64 m0.long, .int .i64 m0.more, .string ⟨m0.root.toArray⟩, .int .i64 m0.marks] 27)) (fun k => k = W5.heap.size ∨ (Value.slice a0 n0 c0).ownBlock = some k) S4 p l (dk (-1) ch0 g0.s) g0) :=
    ((HL4.out.quiet hm5).quiet ((Mod.refl _ _).alloc _)).holds (fun k hk => by
      rcases hk with rfl | hk
      · exact ⟨by rw [size_alloc]; omega, (HL4.out.quiet hm5).fresh (Nat.le_refl _)⟩
      · have := hr5.lt k hk
        exact ⟨by rw [size_alloc]; omega, HL4.out.fresh this.1⟩)
  have HB5 : Hid (Box (W5.alloc (.cells #[.slice a0 n0 c0, .slice none 0 0, .int .i64 m0.long, .int .i64 m0.more, .string ⟨m0.root.toArray⟩, .int .i64 m0.marks] 27)) W5.heap.size (.slice a0 n0 c0) (.slice none 0 0) m0) := heap_alloc_new _ _
  have HR5 : Hid (RecsAt (W5.alloc (.cells #[.slice a0 n0 c0, .slice none 0 0, .int .i64 m0.long, .int .i64 m0.more, .string ⟨m0.root.toArray⟩, .int .i64 m0.marks] 27)) w.heap.size (.slice a0 n0 c0) m0.sure) :=
    ownsRow_mod (G := NoB) (ownsRow_base hr5 HL4.out.mod.size) ((Mod.refl _ _).alloc _) (fun _ _ => id)
  have HBN : Hid (w.heap.size ≤ W5.heap.size) := (HL4.out.quiet hm5).mod.size
  clear hm5 hr5 HMC HL4
  go_upto_region 6 with fail
  generalize W5.alloc (.cells #[.slice a0 n0 c0, .slice none 0 0, .int .i64 m0.long, .int .i64 m0.more, .string ⟨m0.root.toArray⟩, .int .i64 m0.marks] 27) = W6 at *
  generalize W5.heap.size = B at *
  go_cut [43] from 38 to 43 (fun b wx => b = .bool (decide (n < 0 ∨ 1000 < n)) ∧ wx = W6)
  case first =>
    by_cases h1 : n < 0
    · have h3 : decide (n < 0 ∨ 1000 < n) = true := decide_eq_true (.inl h1)
      go_wp2
      go_meet
      case rel => exact ⟨by rw [h3], rfl⟩
    · by_cases h2 : 1000 < n
      · have h3 : decide (n < 0 ∨ 1000 < n) = true := decide_eq_true (.inr h2)
        go_wp2
        go_meet
        case rel => exact ⟨by rw [h3], rfl⟩
      · have h3 : decide (n < 0 ∨ 1000 < n) = false := decide_eq_false (fun h => h.elim h1 h2)
        go_wp2
        go_meet
        case rel => exact ⟨by rw [h3], rfl⟩
  case rest =>
  obtain ⟨rfl, rfl⟩ := hcut
  go_upto_if 43 with fail
  go_cut [1] from 38 to 43 (fun rm wx => ∃ R : Nat, R ≤ 1000 ∧ rm = .int .i64 R ∧ wx = wc)
  case first =>
    by_cases h1 : n < 0 ∨ 1000 < n
    · have h3 : decide (n < 0 ∨ 1000 < n) = true := decide_eq_true h1
      rw [h3]
      go_wp2
      go_meet
      case rel => exact ⟨40, by decide, rfl, rfl⟩
    · have h3 : decide (n < 0 ∨ 1000 < n) = false := decide_eq_false h1
      rw [h3]
      go_wp2
      go_meet
      case rel => exact ⟨n.toNat, by omega, by rw [Int.toNat_of_nonneg (by omega)], rfl⟩
  case rest =>
  obtain ⟨R, hR, rfl, rfl⟩ := hcut
  have hlen0 := HFP.out.len
  have hch0 := HFP.out.chs
  have hus := Used_calls p S4 (dk (-1) ch0 g0.s) wc HL5.out.disk (by rw [dk_size]; omega)
  rw [dk_size] at hus
  have HUS := Lib.hid hus
  clear hus
  go_wp2_with fail
  refine HUS.out.mono ?_
  rintro e W7 ⟨rfl, hm7⟩
  have HL7 := Lib.hid (HL5.out.quiet hm7)
  have HRM := Lib.hid (Room_calls p S4 (dk (-1) ch0 g0.s) (g0.s.length + R) W7 HL7.out.disk)
  have HB7 : Hid (Box W7 B (.slice a0 n0 c0) (.slice none 0 0) m0) := (hm7.block B (HL5.out.apart B (.inl rfl)).1 id).trans HB5.out
  have HR7 := Lib.hid (ownsRow_mod HR5.out hm7 (fun _ _ => id))
  clear HUS HL5 HB5 HR5 hm7
  go_wp2_with fail
  refine HRM.out.mono ?_
  rintro e W8 ⟨rfl, hm8, hd8⟩
  have hL8 := HL7.out.disks hm8 (hd8.mono (fun _ _ h => .inl h))
  have hb8 : Box W8 B (.slice a0 n0 c0) (.slice none 0 0) m0 := (HL7.out.keep (hm8.mono (fun _ _ e => .inl e)) (.inl rfl)).trans HB7.out
  have hr8 : RecsAt W8 w.heap.size (.slice a0 n0 c0) m0.sure := ownsRow_mod HR7.out hm8 (fun k hk => (HL7.out.apart k (.inr hk)).2.1)
  have hrm : ∃ rm : Int, rm = (g0.s.length + R : Int) ∧ -9223372036854775808 ≤ rm ∧ rm ≤ 9223372036854775807 := ⟨_, rfl, by omega, by omega⟩
  obtain ⟨rm, hrm, hrm0, hrm1⟩ := hrm
  have hdd : ({ dk (-1) ch0 g0.s with room := g0.s.length + R } : Dk) = dk rm ch0 g0.s := by rw [hrm]; rfl
  rw [hdd] at hL8
  have HIN : Hid (∃ S v g m ch, LD w W8 (fun k => k = B ∨ v.ownBlock = some k) S p l (dk rm ch g.s) g ∧ Box W8 B v (.slice none 0 0) m ∧ RecsAt W8 w.heap.size v m.sure ∧ FP 0 g m ch) := ⟨_, _, _, _, _, hL8, hb8, hr8, HFP.out⟩
  clear HL7 HB7 HR7 HRM hm8 hd8 hL8 hb8 hr8 hdd hrm HFP hlen0 hch0
  go_wp2_with fail
  go_loopw [10] (fun i wr => ∃ k : Nat, k ≤ ls.length ∧ k ≤ 30 ∧ i = .int .i64 k ∧ Hid (∃ S v g m ch, LD w wr (fun k => k = B ∨ v.ownBlock = some k) S p l (dk rm ch g.s) g ∧ Box wr B v (.slice none 0 0) m ∧ RecsAt wr w.heap.size v m.sure ∧ FP k g m ch)) (fun i _ => ls.length - (intOf i).toNat)
  case atStart => exact ⟨0, by omega, by omega, rfl, HIN⟩
  case round =>
    obtain ⟨k, hkl, hk30, rfl, HREL⟩ := hrel
    by_cases hlt : k < ls.length ∧ k < 30
    · obtain ⟨hlt, hlt30⟩ := hlt
      obtain ⟨S, v, g, m, ch, hL, hB, hR, hP⟩ := HREL.out
      obtain ⟨a1, n1, c1, rfl⟩ := hR.shape
      obtain ⟨b, o, rfl, hb, hc⟩ := HC.out k hlt
      have hcw : wr.cell? ⟨b, o + k, none⟩ = some (.string ⟨(ls[k]?.getD []).toArray⟩) := (World.cell?_of_block (w := w) (hL.mod.block b hb id)).trans hc
      have hbw := Nat.lt_of_lt_of_le hb hL.mod.size
      have hsl : (ls[k]?.getD []).length ≤ 9223372036854775807 := HS.out _ (by rw [List.getElem?_eq_getElem hlt]; exact List.getElem_mem hlt)
      generalize ls[k]?.getD [] = s0 at *
      have hfw := few4_calls s0 wr hsl
      have hfl := few_length s0
      generalize few s0 = s at *
      have HFW := Lib.hid hfw
      clear hfw hc hsl
      have hap := LAppend_calls l p g s wr hL.log (by omega) (by have := hP.len; omega) (by rw [hP.gw]; simp)
      have happ : g.append s = ((m.long : Int), 0, { g with wait := g.wait ++ frame (100 :: s) }) := by
        unfold Lg.append
        rw [if_neg (by omega), hP.gw, hP.holds.long]
        simp
      rw [happ] at hap
      have HAP := Lib.hid hap
      have HL := Lib.hid hL
      have HB := Lib.hid hB
      have HR := Lib.hid hR
      have HP := Lib.hid hP
      have HNB : Hid (wr.heap.size ≤ wr.heap.size) := Nat.le_refl _
      clear hap happ hL hB hR hP HREL
      go_wp2_with fail
      refine HFW.out.mono ?_
      rintro e w' ⟨rfl, rfl⟩
      go_wp2_with fail
      refine HAP.out.mono ?_
      rintro e X ⟨rfl, hmX, hlX⟩
      have HLX := Lib.hid (HL.out.logs hmX hlX)
      have hBX : Box X B (.slice a1 n1 c1) (.slice none 0 0) m := (HL.out.keep (hmX.mono (fun _ _ e => .inr e)) (.inl rfl)).trans HB.out
      have HRX : Hid (RecsAt X w.heap.size (.slice a1 n1 c1) m.sure) := ownsRow_mod HR.out hmX (fun k hk => (HL.out.apart k (.inr hk)).2.2)
      obtain ⟨xb, x0, x1, x2, x3, x4, x5, xf⟩ := hBX.facts
      have HBX := Lib.hid hBX
      clear hmX hlX HAP HL HB HR hBX HFW
      have HFR := Lib.hid (fun X => frame4_calls s X (by omega))
      go_wp2_with fail
      refine (HFR.out _).mono ?_
      rintro e Y ⟨rfl, hmY⟩
      have h0 : (X.alloc (.cells #[.slice a1 n1 c1, .slice none 0 0, .int .i64 m.long, .int .i64 m.more, .string ⟨m.root.toArray⟩, .int .i64 m.marks] 27)).heap.size = X.heap.size + 1 := size_alloc _ _
      have hy2 : Box Y X.heap.size (.slice a1 n1 c1) (.slice none 0 0) m := (hmY.block _ (by rw [size_alloc]; omega) id).trans ((heap_alloc_lt _ _ _ (by omega)).trans (heap_alloc_new _ _))
      have hy3 : Y.heap[X.heap.size + 1]? = some (.cells #[.int .i64 m.long, .string ⟨s.toArray⟩] 34 (0, 0)) := (hmY.block _ (by rw [size_alloc]; omega) id).trans (by
        have := heap_alloc_new (X.alloc (.cells #[.slice a1 n1 c1, .slice none 0 0, .int .i64 m.long, .int .i64 m.more, .string ⟨m.root.toArray⟩, .int .i64 m.marks] 27)) (.cells #[.int .i64 m.long, .string ⟨s.toArray⟩] 34)
        rwa [h0] at this)
      have hXY : Mod NoB X Y := (((Mod.refl NoB X).alloc _).alloc _).trans hmY (fun _ _ h => h)
      obtain ⟨yb, y0, y1, y2, y3, y4, y5, yf⟩ := hy2.facts
      clear h0 hmY
      have HY2 := Lib.hid hy2
      have HY3 := Lib.hid hy3
      have HXY := Lib.hid hXY
      clear hy2 hy3 hXY
      have hmc : ∀ Z, RecsAt Z w.heap.size (.slice a1 n1 c1) m.sure → RecsAt Z w.heap.size (.slice (some ⟨X.heap.size + 1, 0, none⟩) 1 1) [((m.long : Int), s)] → Calls Try.prog 29 #[.agg #[.slice a1 n1 c1, .slice (some ⟨X.heap.size + 1, 0, none⟩) 1 1, .int .i64 m.long, .int .i64 (s.length + 9 : Nat), .string ⟨m.root.toArray⟩, .int .i64 m.marks], .string ⟨#[114]⟩] Z fun e w' => ∃ v', e = .returned (.agg #[v', .slice none 0 0, .int .i64 ((m.add s).commit [114]).long, .int .i64 ((m.add s).commit [114]).more, .string ⟨((m.add s).commit [114]).root.toArray⟩, .int .i64 ((m.add s).commit [114]).marks]) ∧ Mod NoB Z w' ∧ RecsAt w' Z.heap.size v' ((m.add s).commit [114]).sure := fun Z h1 h2 => by
        have hadd : (m.add s).commit [114] = ⟨m.sure ++ [((m.long : Int), s)], [], m.long + (s.length + 9 + (1 + 9)), 0, [114], m.marks + 1⟩ := by simp only [Md.commit, Md.add, HP.out.mw, HP.out.mm, List.nil_append, Nat.add_zero, Nat.zero_add]; rfl
        rw [hadd]
        have hcnt := HP.out.cnt
        have hl1 := HP.out.len
        rw [HP.out.holds.long] at hl1
        have hmk := HP.out.mks
        rw [HP.out.holds.marks] at hmk
        exact mcommit_calls _ _ _ _ m.sure [((m.long : Int), s)] m.long (s.length + 9) m.marks m.root [114] Z h1 h2 (by simp only [List.length_cons, List.length_nil]; omega) (by show (1 : Nat) ≤ _; omega) (by omega) (by omega) (by omega)
      have HMC := Lib.hid hmc
      clear hmc
      go_wp2_with fail
      have hz : ((Y.setCell ⟨X.heap.size, 1, none⟩ (.slice (some ⟨X.heap.size + 1, 0, none⟩) 1 1)).setCell ⟨X.heap.size, 3, none⟩ (.int .i64 ((s.length : Int) + 9))).heap[X.heap.size]? = some (.cells #[.slice a1 n1 c1, .slice (some ⟨X.heap.size + 1, 0, none⟩) 1 1, .int .i64 m.long, .int .i64 ((s.length : Int) + 9), .string ⟨m.root.toArray⟩, .int .i64 m.marks] 27 (0, 0)) := by
        have h := HY2.out
        unfold Box at h
        simp only [heap_setCell_same, h, Option.map_some, setAt_cells, Md.vals, List.setIfInBounds_toArray, List.set_cons_zero, List.set_cons_succ]
      have hz3 : ((Y.setCell ⟨X.heap.size, 1, none⟩ (.slice (some ⟨X.heap.size + 1, 0, none⟩) 1 1)).setCell ⟨X.heap.size, 3, none⟩ (.int .i64 ((s.length : Int) + 9))).heap[X.heap.size + 1]? = some (.cells #[.int .i64 m.long, .string ⟨s.toArray⟩] 34 (0, 0)) := by
        rw [heap_setCell_ne _ _ _ _ _ (by omega), heap_setCell_ne _ _ _ _ _ (by omega)]
        exact HY3.out
      have hXZ : Mod NoB X ((Y.setCell ⟨X.heap.size, 1, none⟩ (.slice (some ⟨X.heap.size + 1, 0, none⟩) 1 1)).setCell ⟨X.heap.size, 3, none⟩ (.int .i64 ((s.length : Int) + 9))) :=
        (HXY.out.setCell _ _ (fun h => absurd h (Nat.lt_irrefl _))).setCell _ _ (fun h => absurd h (Nat.lt_irrefl _))
      generalize (Y.setCell ⟨X.heap.size, 1, none⟩ (.slice (some ⟨X.heap.size + 1, 0, none⟩) 1 1)).setCell ⟨X.heap.size, 3, none⟩ (.int .i64 ((s.length : Int) + 9)) = Z at *
      have HMCZ := Lib.hid (HMC.out Z (ownsRow_mod HRX.out hXZ (fun _ _ => id)) (recs_one hz3 (Nat.le_trans HLX.out.mod.size (Nat.le_succ _))))
      have HLZ := Lib.hid (HLX.out.quiet hXZ)
      have HBZ : Hid (Box Z B (.slice a1 n1 c1) (.slice none 0 0) m) := (hXZ.block B (lt_heap HBX.out) id).trans HBX.out
      have HRZ : Hid (RecsAt Z w.heap.size (.slice a1 n1 c1) m.sure) := ownsRow_mod HRX.out hXZ (fun _ _ => id)
      have HZ := Lib.hid hz
      have HXS : Hid (X.heap.size < Z.heap.size) := lt_heap hz
      clear hz hz3 hXZ y0 y1 y2 y3 y4 y5 yf yb HY2 HY3 HXY HMC x0 x1 x2 x3 x4 x5 xf xb HRX
      refine HMCZ.out.mono ?_
      rintro e Q ⟨v2, rfl, hmQ, hrQ⟩
      obtain ⟨a2, n2, c2, rfl⟩ := hrQ.shape
      have hq := (hmQ.block _ HXS.out id).trans HZ.out
      have qb := lt_heap hq
      have qf := frozen_heap hq
      have q0 := cell_heap hq 0
      have q1 := cell_heap hq 1
      have q2 := cell_heap hq 2
      have q3 := cell_heap hq 3
      have q4 := cell_heap hq 4
      have q5 := cell_heap hq 5
      simp only [List.getElem?_toArray, List.getElem?_cons_zero, List.getElem?_cons_succ] at q0 q1 q2 q3 q4 q5
      have hm2w : ((m.add s).commit [114]).wait = [] := rfl
      have hm2s : ((m.add s).commit [114]).sure.length = m.sure.length + 1 := by simp [Md.commit, Md.add, HP.out.mw]
      have hm2l : ((m.add s).commit [114]).long = m.long + (s.length + 19) := by simp only [Md.commit, Md.add, HP.out.mm, List.length_cons, List.length_nil]; omega
      have HRD := Lib.hid (FP.round (r := rm) HP.out hfl)
      generalize (m.add s).commit [114] = m2 at *
      have HLQ : Hid (LD w Q (fun k => k = B ∨ (Value.slice a1 n1 c1).ownBlock = some k ∨ k = X.heap.size ∨ (Value.slice a2 n2 c2).ownBlock = some k) S p l (dk rm ch g.s) { g with wait := g.wait ++ frame (100 :: s) }) := (HLZ.out.quiet hmQ).holds (fun k hk => by
        rcases hk with rfl | hk | rfl | hk
        · exact (HLZ.out.quiet hmQ).apart _ (.inl rfl)
        · exact (HLZ.out.quiet hmQ).apart _ (.inr hk)
        · exact ⟨qb, HLX.out.fresh (Nat.le_refl _)⟩
        · exact ⟨(hrQ.lt k hk).2, HLZ.out.fresh (hrQ.lt k hk).1⟩)
      have HQ := Lib.hid hq
      have HRQ := Lib.hid hrQ
      have HMQ := Lib.hid hmQ
      have HM2 : Hid (m2.wait = [] ∧ m2.sure.length = m.sure.length + 1 ∧ m2.long = m.long + (s.length + 19)) := ⟨hm2w, hm2s, hm2l⟩
      have HBX2 : Hid (w.heap.size ≤ X.heap.size) := HLX.out.mod.size
      have HNE : Hid (∀ k, (Value.slice a2 n2 c2).ownBlock = some k → k ≠ B) := fun k hk e => by have := (hrQ.lt k hk).1; have := lt_heap HBX.out; have := HXS.out; omega
      clear hq hrQ hmQ hm2w hm2s hm2l HMCZ
      go_wp2_with fail
      have hLT := HLQ.out.own (putBox_mod Q X.heap.size (.slice a2 n2 c2) (.slice none 0 0) m2) (fun k _ e => by subst e; exact ⟨(HLQ.out.apart _ (.inr (.inr (.inl rfl)))).2.1, (HLQ.out.apart _ (.inr (.inr (.inl rfl)))).2.2, HBX2.out⟩)
      have hBT := putBox_box (.slice a2 n2 c2) (.slice none 0 0) m2 HQ.out
      have hRT : RecsAt (putBox Q X.heap.size (.slice a2 n2 c2) (.slice none 0 0) m2) w.heap.size (.slice a2 n2 c2) m2.sure := ownsRow_mod (ownsRow_base HRQ.out HLZ.out.mod.size) (putBox_mod Q X.heap.size (.slice a2 n2 c2) (.slice none 0 0) m2) (fun k hk e => by have := (HRQ.out.lt k hk).1; have := HXS.out; omega)
      have hMT : Mod NoB Z Q := HMQ.out
      have hBT1 : Box (putBox Q X.heap.size (.slice a2 n2 c2) (.slice none 0 0) m2) B (.slice a1 n1 c1) (.slice none 0 0) m := ((putBox_mod Q X.heap.size (.slice a2 n2 c2) (.slice none 0 0) m2).block B (lt_heap ((hMT.block B (lt_heap HBZ.out) id).trans HBZ.out)) (fun e => by have := lt_heap HBX.out; omega)).trans ((hMT.block B (lt_heap HBZ.out) id).trans HBZ.out)
      have hRT1 : RecsAt (putBox Q X.heap.size (.slice a2 n2 c2) (.slice none 0 0) m2) w.heap.size (.slice a1 n1 c1) m.sure := ownsRow_mod (ownsRow_mod HRZ.out hMT (fun _ _ => id)) (putBox_mod Q X.heap.size (.slice a2 n2 c2) (.slice none 0 0) m2) (fun k hk e => by have := (HLX.out.apart k (.inr hk)).1; omega)
      show Calls _ _ _ (putBox Q X.heap.size (.slice a2 n2 c2) (.slice none 0 0) m2) _
      generalize putBox Q X.heap.size (.slice a2 n2 c2) (.slice none 0 0) m2 = T at *
      have hgl := HP.out.len
      have hgw := HP.out.gw
      have hcm := LCommit_calls l p S (dk rm ch g.s) { g with wait := g.wait ++ frame (100 :: s) } [114] 20000 T hLT.log hLT.disk hLT.sl (fit_dk (by have := HP.out.chs; omega) (by omega) hrm0 hrm1) (by simp only; omega) (by simp only [hgw, List.length_append, frame_length, List.length_cons, List.length_nil]; omega) (by show (1 : Nat) ≤ _; omega) (by have := HP.out.mks; simp only; omega)
      have HLT := Lib.hid hLT
      have HBT := Lib.hid hBT
      have HRT := Lib.hid hRT
      have HBT1 := Lib.hid hBT1
      have HRT1 := Lib.hid hRT1
      have HCM := Lib.hid hcm
      clear hLT hBT hRT hBT1 hRT1 hcm hMT HLQ HQ HRQ HMQ HBZ HRZ HZ HLZ hgl hgw q0 q1 q2 q3 q4 q5 qf qb
      rcases HRD.out with ⟨g2, ch2, hcv, hP2⟩ | ⟨hcv, hP2⟩
      · have hcm := HCM.out
        rw [hcv] at hcm
        have HP2 := Lib.hid hP2
        have HCM2 := Lib.hid hcm
        clear hcv hcm HCM hP2 HRD
        refine HCM2.out.mono ?_
        rintro e U ⟨rfl, hmU, hlU, hdU⟩
        have HLU := Lib.hid (HLT.out.both hmU hlU hdU)
        have hBU : Box U X.heap.size (.slice a2 n2 c2) (.slice none 0 0) m2 := (HLT.out.keep hmU (.inr (.inr (.inl rfl)))).trans HBT.out
        have hRU : RecsAt U w.heap.size (.slice a2 n2 c2) m2.sure := ownsRow_mod HRT.out hmU (fun k hk e => by have := (HLT.out.apart k (.inr (.inr (.inr hk)))).2; rcases e with e | e; exact this.1 e; exact this.2 e)
        have hBU1 : Box U B (.slice a1 n1 c1) (.slice none 0 0) m := (HLT.out.keep hmU (.inl rfl)).trans HBT1.out
        generalize Since S T U = S2 at HLU
        obtain ⟨tb, t0, t1, t2, t3, t4, t5, tf⟩ := hBU.facts
        obtain ⟨ub, u0, u1, u2, u3, u4', u5, uf⟩ := hBU1.facts
        have hus : ∀ y, Calls Try.prog 31 #[.pointer (some ⟨p, 0, none⟩)] (over U NoB y) fun e w' => e = .returned (.int .i64 m2.long) ∧ Mod NoB (over U NoB y) w' := fun y => by
          have h1 := (HLU.out.quiet (over_mod U NoB y)).disk
          have h2 := HP2.out.len
          have := Used_calls p S2 (dk rm ch2 g2.s) _ h1 (by rw [dk_size]; omega)
          rw [dk_size, HP2.out.holds.long] at this
          exact this
        have HUS := Lib.hid hus
        have HBU := Lib.hid hBU
        have HRU := Lib.hid hRU
        have HBU1 := Lib.hid hBU1
        have hl2 := HM2.out.2.2
        have HL2 := Lib.hid hl2
        clear hus hBU hRU hBU1 hmU hlU hdU HLT HBT HRT HBT1 HRT1 HCM2 hl2
        have hb2 : m2.long ≤ 20000 := by have := HP2.out.len; rw [HP2.out.holds.long] at this; omega
        have hb1 : m.long ≤ m2.long := by have := HL2.out; omega
        have hneg : ¬ (m2.long : Int) - m.long < 0 := by omega
        go_wp2_with fail
        refine wp_region_quiet_all (fun w' => ∃ x, w' = over _ (NoB) x) (by kernel_rfl) (by kernel_rfl) (Cls.drew _ _) ?_
        repeat (go_big_quiet_step ((go_at_call 31; exact Calls.cls (fun _ _ h => h) (HUS.out _))))
        refine wpQuiet_nil ?_
        rintro _ ⟨y, rfl⟩
        go_wp2_with fail
        have hmV : Mod NoB U (over U NoB y) := over_mod _ _ _
        have hLV := ((HLU.out.quiet hmV).own (putBox_mod (over U NoB y) B (.slice a2 n2 c2) (.slice none 0 0) m2) (fun k _ e => by subst e; exact ⟨(HLU.out.apart _ (.inl rfl)).2.1, (HLU.out.apart _ (.inl rfl)).2.2, HBN.out⟩)).holds (K' := fun k => k = B ∨ (Value.slice a2 n2 c2).ownBlock = some k) (fun k hk => ((HLU.out.quiet hmV).own (putBox_mod (over U NoB y) B (.slice a2 n2 c2) (.slice none 0 0) m2) (fun k _ e => by subst e; exact ⟨(HLU.out.apart _ (.inl rfl)).2.1, (HLU.out.apart _ (.inl rfl)).2.2, HBN.out⟩)).apart k (by rcases hk with hk | hk; exact .inl hk; exact .inr (.inr (.inr hk))))
        have hBV := putBox_box (.slice a2 n2 c2) (.slice none 0 0) m2 ((hmV.block B (lt_heap HBU1.out) id).trans HBU1.out)
        have hRV : RecsAt (putBox (over U NoB y) B (.slice a2 n2 c2) (.slice none 0 0) m2) w.heap.size (.slice a2 n2 c2) m2.sure := ownsRow_mod (ownsRow_mod HRU.out hmV (fun _ _ => id)) (putBox_mod (over U NoB y) B (.slice a2 n2 c2) (.slice none 0 0) m2) (fun k hk e => HNE.out k hk e)
        show Calls _ _ _ (putBox (over U NoB y) B (.slice a2 n2 c2) (.slice none 0 0) m2) _
        generalize putBox (over U NoB y) B (.slice a2 n2 c2) (.slice none 0 0) m2 = V at *
        have hm2 := HM2.out.1
        have hsm := same_calls l p w.heap.size 0 g2 (.slice a2 n2 c2) (.slice none 0 0) m2 V hLV.log hRV (recs_nil hm2) (by have := HP2.out.cnt; rw [hm2]; simp only [List.length_nil]; omega) (HP2.out.holds.agree (by rw [HP2.out.mm]; omega)) (by omega) (by rw [HP2.out.mm]; omega) (by have := HP2.out.mks; rw [HP2.out.holds.marks] at this; omega)
        have HSM := Lib.hid hsm
        have HLV := Lib.hid hLV
        have HBV := Lib.hid hBV
        have HRV := Lib.hid hRV
        clear hsm hLV hBV hRV hmV hm2 t0 t1 t2 t3 t4 t5 tf tb u0 u1 u2 u3 u4' u5 uf ub HBU HRU HBU1 HLU HUS hneg
        refine HSM.out.mono ?_
        rintro e wn ⟨rfl, hmn⟩
        have HREL2 : Hid (∃ S v g m ch, LD w wn (fun k => k = B ∨ v.ownBlock = some k) S p l (dk rm ch g.s) g ∧ Box wn B v (.slice none 0 0) m ∧ RecsAt wn w.heap.size v m.sure ∧ FP (k + 1) g m ch) :=
          ⟨_, _, _, _, _, HLV.out.quiet hmn, (hmn.block B (HLV.out.apart B (.inl rfl)).1 id).trans HBV.out, ownsRow_mod HRV.out hmn (fun _ _ => id), HP2.out⟩
        clear hmn HSM HLV HBV HRV
        go_wp2_with fail
        go_roundw
        case rel => exact ⟨k + 1, by omega, by omega, by go_num, HREL2⟩
        case measure => simp [intOf]; omega
      · have hcm := HCM.out
        rw [hcv] at hcm
        have HP2 := Lib.hid hP2
        have HCM2 := Lib.hid hcm
        clear hcv hcm HCM hP2 HRD
        refine HCM2.out.mono ?_
        rintro e U ⟨rfl, hmU, hlU, hdU⟩
        have hLU := (HLT.out.both hmU hlU hdU).holds (K' := fun k => k = B ∨ (Value.slice a1 n1 c1).ownBlock = some k) (fun k hk => (HLT.out.both hmU hlU hdU).apart k (by rcases hk with hk | hk; exact .inl hk; exact .inr (.inl hk)))
        have hBU1 : Box U B (.slice a1 n1 c1) (.slice none 0 0) m := (HLT.out.keep hmU (.inl rfl)).trans HBT1.out
        have hRU1 : RecsAt U w.heap.size (.slice a1 n1 c1) m.sure := ownsRow_mod HRT1.out hmU (fun k hk e => by have := (HLT.out.apart k (.inr (.inl hk))).2; rcases e with e | e; exact this.1 e; exact this.2 e)
        generalize Since S T U = S2 at hLU
        obtain ⟨ub, u0, u1, u2, u3, u4', u5, uf⟩ := hBU1.facts
        have hm2 := HP2.out.mw
        have hgl := HP2.out.len
        rw [HP2.out.holds.long] at hgl
        have hsm := same_calls l p w.heap.size 0 g (.slice a1 n1 c1) (.slice none 0 0) m U hLU.log hRU1 (recs_nil hm2) (by have := HP2.out.cnt; rw [hm2]; simp only [List.length_nil]; omega) (HP2.out.holds.agree (by rw [HP2.out.mm]; omega)) (by omega) (by rw [HP2.out.mm]; omega) (by have := HP2.out.mks; rw [HP2.out.holds.marks] at this; omega)
        have HSM := Lib.hid hsm
        have HLV := Lib.hid hLU
        have HBV := Lib.hid hBU1
        have HRV := Lib.hid hRU1
        clear hsm hLU hBU1 hRU1 hm2 hgl hmU hlU hdU HLT HBT HRT HBT1 HRT1 HCM2
        go_wp2_with fail
        refine HSM.out.mono ?_
        rintro e wn ⟨rfl, hmn⟩
        have HREL2 : Hid (∃ S v g m ch, LD w wn (fun k => k = B ∨ v.ownBlock = some k) S p l (dk rm ch g.s) g ∧ Box wn B v (.slice none 0 0) m ∧ RecsAt wn w.heap.size v m.sure ∧ FP (k + 1) g m ch) :=
          ⟨_, _, _, _, _, HLV.out.quiet hmn, (hmn.block B (HLV.out.apart B (.inl rfl)).1 id).trans HBV.out, ownsRow_mod HRV.out hmn (fun _ _ => id), HP2.out⟩
        clear hmn HSM HLV HBV HRV u0 u1 u2 u3 u4' u5 uf ub
        go_wp2_with fail
        go_roundw
        case rel => exact ⟨k + 1, by omega, by omega, by go_num, HREL2⟩
        case measure => simp [intOf]; omega
    · obtain ⟨S, v, g, m, ch, hL, hB, hR, hP⟩ := HREL.out
      obtain ⟨a1, n1, c1, rfl⟩ := hR.shape
      have HL := Lib.hid hL
      have HB := Lib.hid hB
      have HR := Lib.hid hR
      have HP := Lib.hid hP
      have HRM := Lib.hid (Room_calls p S (dk rm ch g.s) (-1) wr hL.disk)
      clear hL hB hR hP HREL
      by_cases h1 : k < ls.length
      · have h2 : k = 30 := by omega
        subst h2
        go_wp2_with fail
        refine HRM.out.mono ?_
        rintro e W9 ⟨rfl, hm9, hd9⟩
        have hL9 := HL.out.disks hm9 (hd9.mono (fun _ _ h => .inl h))
        have hB9 : Box W9 B (.slice a1 n1 c1) (.slice none 0 0) m := (HL.out.keep (hm9.mono (fun _ _ e => .inl e)) (.inl rfl)).trans HB.out
        have hR9 : RecsAt W9 w.heap.size (.slice a1 n1 c1) m.sure := ownsRow_mod HR.out hm9 (fun k hk => (HL.out.apart k (.inr hk)).2.1)
        have hdd : ({ dk rm ch g.s with room := -1 } : Dk) = dk (-1) ch g.s := rfl
        rw [hdd] at hL9
        generalize Since S wr W9 = S9 at hL9
        have hgl := HP.out.len
        have hop := Open_calls p S9 (dk (-1) ch g.s) 20000 W9 hL9.disk (fit_dk (by have := HP.out.chs; omega) (by omega) (by omega) (by omega)) (by omega)
        rw [dk_open (-1) ch g.s g.root g.marks HP.out.whole] at hop
        have HOP := Lib.hid hop
        have HL9 := Lib.hid hL9
        have HB9 := Lib.hid hB9
        have HR9 := Lib.hid hR9
        clear hop hL9 hB9 hR9 hdd hm9 hd9 HRM HL HB HR hgl
        go_wp2_with fail
        refine HOP.out.mono ?_
        rintro e WA ⟨l2, rfl, hl0, hlA, hmA, hdA⟩
        have hBA : Box WA B (.slice a1 n1 c1) (.slice none 0 0) m := (HL9.out.keep (hmA.mono (fun _ _ e => .inl e)) (.inl rfl)).trans HB9.out
        have hRA : RecsAt WA w.heap.size (.slice a1 n1 c1) m.sure := ownsRow_mod HR9.out hmA (fun k hk => (HL9.out.apart k (.inr hk)).2.1)
        have HMA : Hid (Mod NoB w WA) := HL9.out.mod.trans hmA (fun k hk e => by have := (HL9.out.low k e).1; omega)
        obtain ⟨ub, u0, u1, u2, u3, u4', u5, uf⟩ := hBA.facts
        have hm2 := HP.out.mw
        have hgl := HP.out.len
        rw [HP.out.holds.long] at hgl
        have hge : (⟨g.s, [], g.root, g.marks⟩ : Lg) = g := by
          have := HP.out.gw
          obtain ⟨q1, q2, q3, q4⟩ := g
          simp only at this
          rw [this]
        rw [hge] at hlA
        have hsm := same_calls l2 p w.heap.size 0 g (.slice a1 n1 c1) (.slice none 0 0) m WA hlA hRA (recs_nil hm2) (by have := HP.out.cnt; rw [hm2]; simp only [List.length_nil]; omega) (HP.out.holds.agree (by rw [HP.out.mm]; omega)) (by omega) (by rw [HP.out.mm]; omega) (by have := HP.out.mks; rw [HP.out.holds.marks] at this; omega)
        have HSM := Lib.hid hsm
        clear hsm hBA hRA hm2 hgl hge hmA hlA hdA hl0 HOP HL9 HB9 HR9
        go_wp2_with fail
        refine HSM.out.mono ?_
        rintro e wn ⟨rfl, hmn⟩
        have HMN : Hid (Mod NoB w wn) := HMA.out.trans hmn (fun _ _ h => h)
        clear HSM hmn
        go_wp2_with fail
        go_ret
        exact ⟨rfl, HMN.out⟩
      · go_wp2_with fail
        refine HRM.out.mono ?_
        rintro e W9 ⟨rfl, hm9, hd9⟩
        have hL9 := HL.out.disks hm9 (hd9.mono (fun _ _ h => .inl h))
        have hB9 : Box W9 B (.slice a1 n1 c1) (.slice none 0 0) m := (HL.out.keep (hm9.mono (fun _ _ e => .inl e)) (.inl rfl)).trans HB.out
        have hR9 : RecsAt W9 w.heap.size (.slice a1 n1 c1) m.sure := ownsRow_mod HR.out hm9 (fun k hk => (HL.out.apart k (.inr hk)).2.1)
        have hdd : ({ dk rm ch g.s with room := -1 } : Dk) = dk (-1) ch g.s := rfl
        rw [hdd] at hL9
        generalize Since S wr W9 = S9 at hL9
        have hgl := HP.out.len
        have hop := Open_calls p S9 (dk (-1) ch g.s) 20000 W9 hL9.disk (fit_dk (by have := HP.out.chs; omega) (by omega) (by omega) (by omega)) (by omega)
        rw [dk_open (-1) ch g.s g.root g.marks HP.out.whole] at hop
        have HOP := Lib.hid hop
        have HL9 := Lib.hid hL9
        have HB9 := Lib.hid hB9
        have HR9 := Lib.hid hR9
        clear hop hL9 hB9 hR9 hdd hm9 hd9 HRM HL HB HR hgl
        go_wp2_with fail
        refine HOP.out.mono ?_
        rintro e WA ⟨l2, rfl, hl0, hlA, hmA, hdA⟩
        have hBA : Box WA B (.slice a1 n1 c1) (.slice none 0 0) m := (HL9.out.keep (hmA.mono (fun _ _ e => .inl e)) (.inl rfl)).trans HB9.out
        have hRA : RecsAt WA w.heap.size (.slice a1 n1 c1) m.sure := ownsRow_mod HR9.out hmA (fun k hk => (HL9.out.apart k (.inr hk)).2.1)
        have HMA : Hid (Mod NoB w WA) := HL9.out.mod.trans hmA (fun k hk e => by have := (HL9.out.low k e).1; omega)
        obtain ⟨ub, u0, u1, u2, u3, u4', u5, uf⟩ := hBA.facts
        have hm2 := HP.out.mw
        have hgl := HP.out.len
        rw [HP.out.holds.long] at hgl
        have hge : (⟨g.s, [], g.root, g.marks⟩ : Lg) = g := by
          have := HP.out.gw
          obtain ⟨q1, q2, q3, q4⟩ := g
          simp only at this
          rw [this]
        rw [hge] at hlA
        have hsm := same_calls l2 p w.heap.size 0 g (.slice a1 n1 c1) (.slice none 0 0) m WA hlA hRA (recs_nil hm2) (by have := HP.out.cnt; rw [hm2]; simp only [List.length_nil]; omega) (HP.out.holds.agree (by rw [HP.out.mm]; omega)) (by omega) (by rw [HP.out.mm]; omega) (by have := HP.out.mks; rw [HP.out.holds.marks] at this; omega)
        have HSM := Lib.hid hsm
        clear hsm hBA hRA hm2 hgl hge hmA hlA hdA hl0 HOP HL9 HB9 HR9
        go_wp2_with fail
        refine HSM.out.mono ?_
        rintro e wn ⟨rfl, hmn⟩
        have HMN : Hid (Mod NoB w wn) := HMA.out.trans hmn (fun _ _ h => h)
        clear HSM hmn
        go_wp2_with fail
        go_ret
        exact ⟨rfl, HMN.out⟩

end Go.Proofs.Ytgofngilfdnakaa
