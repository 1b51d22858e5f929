/- unicodetextlaw13.MultistageLeast. -/
import Derived.Test.YtnlmikefihaldaaOh
namespace Go.Proofs.Ytnlmikefihaldaa
open Go.RowKit

theorem okT_pos {ws : List Int} {ss : List (List Int)} (h : okT ws ss) : 0 < (stg ss 0).length := by
  rw [h.2.2.1]
  have h1 : ws.sum.toNat ≤ 16 := by have := h.1.2.2.2; omega
  have h2 : 2 ^ ws.sum.toNat ≤ 2 ^ 16 := Nat.pow_le_pow_right (by omega) h1
  exact Nat.div_pos (by omega) (Nat.pow_pos (by omega))
/-- what a block's cell holds is among the block's cells -/
theorem blk_val {w : World} {g : Nat} {t : TypeId} {cs : Array Value} (h : Blk w g t cs) {a : Addr} (ha : a.block = g) {v : Value} (hv : w.cell? a = some v) : cs[a.off]? = some v := by
  subst ha
  have h' : w.heap[a.block]? = some (.cells cs t (0, 0)) := h
  unfold World.cell? at hv
  rw [h'] at hv
  dsimp only at hv
  split at hv
  · cases hv
  · exact hv
theorem blk_two {w : World} {g : Nat} {t : TypeId} {x : Value} (h : Blk w g t #[x, x]) {a : Addr} (ha : a.block = g) {v : Value} (hv : w.cell? a = some v) : v = x := by
  have h1 := blk_val h ha hv
  rcases hk : a.off with _ | _ | k <;> rw [hk] at h1 <;> simp at h1
  · exact h1.symm
  · exact h1.symm
theorem reads_far {w w' : World} {g : Nat} {t : TypeId} (hb : Blk w g t #[.slice none 0 0, .slice none 0 0]) (hk : ∀ p : Addr, p.block ≠ g → w'.cell? p = w.cell? p) {B : Nat} {A : Option Addr} {n : Nat} {xs : List Value} (h : Reads w B 1 A n xs) (h0 : 0 < n → xs[0]? ≠ some (.slice none 0 0)) : Reads w' B 1 A n xs := by
  refine ⟨h.1, fun hn => ?_⟩
  obtain ⟨ad, e, hlt, hc⟩ := h.2 hn
  have hl : 0 < xs.length := by have := h.1; omega
  have hne : ad.block ≠ g := fun e2 => by
    have h1 := hc 0 _ (List.getElem?_eq_getElem hl)
    have h2 := blk_two hb (a := ad.add 0) e2 h1
    exact h0 hn (by rw [List.getElem?_eq_getElem hl, h2])
  exact ⟨ad, e, hlt, fun j u hu => (hk _ (by rw [block_of_add]; exact hne)).trans (hc j u hu)⟩
theorem ints_far {w w' : World} {g : Nat} {t : TypeId} (hb : Blk w g t #[.slice none 0 0, .slice none 0 0]) (hk : ∀ p : Addr, p.block ≠ g → w'.cell? p = w.cell? p) {B : Nat} {A : Option Addr} {n : Nat} {xs : List Int} (h : Reads w B 1 A n (xs.map iv)) : Reads w' B 1 A n (xs.map iv) :=
  reads_far hb hk h fun _ e => by cases xs with
    | nil => cases e
    | cons x xs => injection e with e; cases e
/-- a table whose first stage is not empty does not lie in a block of two empty slices -/
theorem tab_far {w w' : World} {g : Nat} {t : TypeId} (hb : Blk w g t #[.slice none 0 0, .slice none 0 0]) (hk : ∀ p : Addr, p.block ≠ g → w'.cell? p = w.cell? p) {B n c n' c' : Nat} {A A' : Option Addr} {ws : List Int} {ss : List (List Int)} (h : Tab w B A n c A' n' c' ws ss) (h0 : 0 < (stg ss 0).length) : Tab w' B A n c A' n' c' ws ss := by
  refine ⟨ints_far hb hk h.widths, h.cap, ?_⟩
  obtain ⟨vs, h1, h2⟩ := h.stages
  refine ⟨vs, reads_far hb hk h1 fun hn e => ?_, h2.1, fun i xs hx => ?_⟩
  · have hl : 0 < ss.length := by have := h1.1; have := h2.1; omega
    obtain ⟨A1, c1, h3, _, _⟩ := h2.at_ hl
    rw [h3] at e
    injection e with e
    injection e with _ e _
    omega
  · obtain ⟨A1, c1, h3, h4, h5⟩ := h2.2 i xs hx
    exact ⟨A1, c1, h3, h4, ints_far hb hk h5⟩

theorem tab_set {w : World} {g : Nat} {t : TypeId} (hb : Blk w g t #[.slice none 0 0, .slice none 0 0]) (x y : Value) {n c n' c' : Nat} {A A' : Option Addr} {ws : List Int} {ss : List (List Int)} (h : Tab w w.heap.size A n c A' n' c' ws ss) (h0 : 0 < (stg ss 0).length) :
    Blk ((w.setCell ⟨g, 0, none⟩ x).setCell ⟨g, 1, none⟩ y) g t #[x, y] ∧ Tab ((w.setCell ⟨g, 0, none⟩ x).setCell ⟨g, 1, none⟩ y) ((w.setCell ⟨g, 0, none⟩ x).setCell ⟨g, 1, none⟩ y).heap.size A n c A' n' c' ws ss := by
  refine ⟨(hb.set_ 0 x).set_ 1 y, ?_⟩
  have hz : ((w.setCell ⟨g, 0, none⟩ x).setCell ⟨g, 1, none⟩ y).heap.size = w.heap.size := by simp [World.setCell]
  rw [hz]
  refine tab_far hb (fun p hp => ?_) h h0
  rw [World.cell?_setCell_other _ _ _ _ (fun e => hp (by rw [← e])), World.cell?_setCell_other _ _ _ _ (fun e => hp (by rw [← e]))]

/-- what Build makes of a formed table's values -/
def LeastE (ws : List Int) (ss : List (List Int)) (n : Nat) (e : Ending) (w' : World) : Prop := ∃ A3 d3 A4 d4 ss', e = .returned (.tuple #[.agg #[.slice A3 n d3, .slice A4 (n + 1) d4], .int .i64 0]) ∧ Tab w' w'.heap.size A3 n d3 A4 (n + 1) d4 ws ss' ∧ szT ss' ≤ szT ss ∧ (∀ i, (stg ss' i).length ≤ 1000000000) ∧ 0 < (stg ss' 0).length
theorem least_of {ws : List Int} {ss : List (List Int)} {l : List (Int × Int × Int)} {n : Nat} {e : Ending} {w' : World} (hf : formedT ws ss) (hs : SInv (look ws ss) l 1114112) (h : BuildE l ws n e w') : LeastE ws ss n e w' := by
  rcases buildE_cases h with ⟨r, hr0, hr, rfl⟩ | ⟨_, A3, d3, A4, d4, ss', rfl, hT', hC⟩
  · exact absurd (chk_ok hs.ok hf.1 hr) hr0
  · exact ⟨A3, d3, A4, d4, ss', rfl, hT', least_sz hC.ok hf (fun c hc => (hC.val c hc).trans (hs.val c hc)), fun i => Nat.le_trans (hC.len i) (by omega), okT_pos hC.ok⟩

set_option maxRecDepth 100000 in
set_option maxHeartbeats 8000000 in
theorem wk_least (A A' : Option Addr) (n c n' c' : Nat) (ws : List Int) (ss : List (List Int)) (w : World) (h : Tab w w.heap.size A n c A' n' c' ws ss) (hw : ∀ i, ∀ x ∈ stg ss i, W64 x) :
    Calls Try.prog 5 #[.agg #[.slice A n c, .slice A' n' c']] w fun e w' => e = .returned (.bool true) ∧ Below w.heap.size w w' := by
  have hL : Below w.heap.size w (w.alloc (.cells #[.slice A n c, .slice A' n' c'] 28)) := (Below.refl _ w).alloc (Nat.le_refl _) _
  have HB := Lib.hid (Blk.new w 28 #[.slice A n c, .slice A' n' c'])
  have HT := Lib.hid ((h.below hL).more hL.size)
  have HL := Lib.hid hL
  have Hw := Lib.hid hw
  clear h hL hw
  have g0 := HB.out.cell 0
  have g1 := HB.out.cell 1
  go_enter Try.func5, Try.ntmps5
  go_wp2_with fail
  obtain ⟨W, hW⟩ : ∃ W, W = w.alloc (.cells #[.slice A n c, .slice A' n' c'] 28) := ⟨_, rfl⟩
  rw [← hW] at HB HT HL g0 g1 ⊢
  clear hW
  refine (small_any A A' n c n' c' ws ss W HT.out).mono ?_
  rintro e w1 ⟨⟨b, rfl, hb⟩, hb1⟩
  have HB1 := Lib.hid (HB.out.stay hb1)
  have HT1 := Lib.hid ((HT.out.below hb1).more hb1.size)
  have HL1 := Lib.hid (HL.out.trans (hb1.mono HL.out.size))
  clear hb1 g0 g1 HB HT HL
  have g0 := HB1.out.cell 0
  have g1 := HB1.out.cell 1
  cases b with
  | false =>
    clear hb
    go_wp2_with fail
    refine (awake_any w1).mono ?_
    rintro e w2 ⟨rfl, hb2⟩
    have HL2 := Lib.hid (HL1.out.trans (hb2.mono HL1.out.size))
    clear hb2
    go_wp2
    go_ret
    exact ⟨rfl, HL2.out⟩
  | true =>
    obtain ⟨hn, hn', hl, _⟩ := hb rfl
    have Hl := Lib.hid hl
    have Hl9 := Lib.hid (fun i => Nat.le_trans (hl i) (show 12000 ≤ 1000000000 by omega))
    clear hb hl
    go_wp2_with fail
    refine (formed_any A A' n c n' c' ws ss w1 HT1.out (by omega) (by omega) Hl9.out).mono ?_
    rintro e w0 ⟨⟨b, rfl, hb⟩, hb0⟩
    have HB0 := Lib.hid (HB1.out.stay hb0)
    have HT0 := Lib.hid ((HT1.out.below hb0).more hb0.size)
    have HL0 := Lib.hid (HL1.out.trans (hb0.mono HL1.out.size))
    have Hb := Lib.hid hb
    clear hb hb0 g0 g1 HB1 HT1 HL1
    have g0 := HB0.out.cell 0
    have g1 := HB0.out.cell 1
    cases b with
    | false =>
      go_wp2_with fail
      refine (awake_any w0).mono ?_
      rintro e w2 ⟨rfl, hb2⟩
      have HL2 := Lib.hid (HL0.out.trans (hb2.mono HL0.out.size))
      clear hb2
      go_wp2
      go_ret
      exact ⟨rfl, HL2.out⟩
    | true =>
    have Hf := Lib.hid (Hb.out.1 rfl)
    go_wp2_with fail
    refine (changes_any A A' n c n' c' ws ss w0 HT0.out (by omega) (by omega) Hl.out).mono ?_
    rintro e w2 ⟨⟨ch, rfl⟩, hb2⟩
    have HB2 := Lib.hid (HB0.out.stay hb2)
    have HT2 := Lib.hid ((HT0.out.below hb2).more hb2.size)
    have HL2 := Lib.hid (HL0.out.trans (hb2.mono HL0.out.size))
    clear hb2 g0 g1 HB0 HT0 HL0 Hb
    have g0 := HB2.out.cell 0
    have g1 := HB2.out.cell 1
    by_cases hch : 2000 < ch
    · go_wp2_with fail
      refine (awake_any w2).mono ?_
      rintro e w3 ⟨rfl, hb3⟩
      have HL3 := Lib.hid (HL2.out.trans (hb3.mono HL2.out.size))
      clear hb3
      go_wp2
      go_ret
      exact ⟨rfl, HL3.out⟩
    have hnn : n' = n + 1 := by
      obtain ⟨h1, h2⟩ := HT2.out.len
      have := Hf.out.2.1
      omega
    subst hnn
    have HT3 := Lib.hid (show ∀ u, Below w2.heap.size w2 u → Tab u u.heap.size A n c A' (n + 1) c' ws ss from fun u hu => (HT2.out.below hu).more hu.size)
    have CV := Lib.hid (show ∀ u, Below w2.heap.size w2 u → Calls Try.prog 25 #[.agg #[.slice A n c, .slice A' (n + 1) c']] u fun e u' => ValE ws ss e u' ∧ Below w2.heap.size w2 u' ∧ Below u.heap.size u u' from fun u hu =>
      (values_any A A' n c (n + 1) c' ws ss Hf.out Hl.out u (HT3.out u hu)).mono fun e u' ⟨h1, h2⟩ => ⟨h1, hu.trans (h2.mono hu.size), h2⟩)
    have CB := Lib.hid (show ∀ u (A5 : Option Addr) (n5 c5 : Nat) (l : List (Int × Int × Int)), Below w2.heap.size w2 u → Reads u u.heap.size 3 A5 n5 (l.flatMap spv) → n5 ≤ 1114112 → SInv (look ws ss) l 1114112 →
        Calls Try.prog 12 #[.slice A5 n5 c5, .slice A n c] u fun e u' => LeastE ws ss n e u' ∧ Below w2.heap.size w2 u' ∧ Below u.heap.size u u' from fun u A5 n5 c5 l hu hr hn5 hs =>
      (build_any A5 n5 c5 l A n c ws u hr (HT3.out u hu).widths (by omega) (HT3.out u hu).cap (by omega) (sinv_w64 hs Hw.out)).mono fun e u' ⟨h1, h2⟩ => ⟨least_of Hf.out hs h1, hu.trans (h2.mono hu.size), h2⟩)
    have K := Lib.hid (show ∀ u, Below w2.heap.size w2 u → u.cell? ⟨w.heap.size, 0, none⟩ = some (.slice A n c) ∧ u.cell? ⟨w.heap.size, 1, none⟩ = some (.slice A' (n + 1) c') from fun u hu => ⟨(hu.cell HB2.out.lt).trans g0, (hu.cell HB2.out.lt).trans g1⟩)
    have hN0 : Hid (w2.heap.size ≤ w2.heap.size) := Lib.hid (Nat.le_refl _)
    have HbD := Lib.hid ((Below.refl w2.heap.size w2).drew)
    have HbA := Lib.hid (((Below.refl w2.heap.size w2).alloc (Nat.le_refl _) (.cells #[.slice none 0 0, .slice none 0 0] 28)).drew)
    have HF0 := Lib.hid ((Blk.new w2 28 #[.slice none 0 0, .slice none 0 0]).drew)
    have hnb : n ≤ 6 := hn
    go_upto_region 3 with fail
    clear g0 g1
    go_cut [3, 4] (fun s3 s4 wx => s4 = .int .i64 0 ∧ ∃ N A3 d3 A4 d4 ss', s3 = .pointer (some ⟨N, 0, none⟩) ∧ Hid (Blk wx N 28 #[.slice A3 n d3, .slice A4 (n + 1) d4]) ∧ Hid (Tab wx wx.heap.size A3 n d3 A4 (n + 1) d4 ws ss') ∧ Hid (szT ss' ≤ szT ss) ∧ Hid (∀ i, (stg ss' i).length ≤ 1000000000) ∧ Hid (Below w2.heap.size w2 wx))
    case first =>
      go_region_held3 (fun u => Below w2.heap.size w2 u ∧ u.cell? ⟨w.heap.size, 0, none⟩ = some (.slice A n c) ∧ u.cell? ⟨w.heap.size, 1, none⟩ = some (.slice A' (n + 1) c')) (first | with_reducible exact ⟨HbD.out, K.out _ HbD.out⟩ | with_reducible exact ⟨HbA.out, K.out _ HbA.out⟩ | with_reducible exact ⟨hbS, K.out _ hbS⟩ | with_reducible exact ⟨hbS.alloc hbS.size _, K.out _ (hbS.alloc hbS.size _)⟩ | with_reducible exact ⟨(hbS.setCell (p := ⟨_, 0, none⟩) hbx _).setCell (p := ⟨_, 1, none⟩) hbx _, K.out _ ((hbS.setCell (p := ⟨_, 0, none⟩) hbx _).setCell (p := ⟨_, 1, none⟩) hbx _)⟩) (first | (go_at_call 25; (first | ((with_reducible refine (CV.out _ HbD.out).mono ?_); rintro e w5 ⟨⟨A5, n5, c5, l, rfl, hr5, _, hn5, hs5⟩, hbS, _⟩) | ((with_reducible refine (CV.out _ HbA.out).mono ?_); rintro e w5 ⟨⟨A5, n5, c5, l, rfl, hr5, _, hn5, hs5⟩, hbS, hbP⟩; have hF5 := HF0.out.stay hbP; clear hbP))) | (go_at_call 12; (first | ((with_reducible refine (CB.out _ _ _ _ _ hbS hr5 hn5 hs5).mono ?_); rintro e w6 ⟨⟨A3, d3, A4, d4, ss', rfl, hT6, hz6, hl6, hp6⟩, hbS6, hbP⟩; (try (have hF6 := hF5.stay hbP; have z0 := hF6.cell 0; have z1 := hF6.cell 1; have f0 := hF6.frozen 0; have f1 := hF6.frozen 1; have hbx := hN0.out)); clear hbS; have hbS := hbS6; clear hbS6) | ((with_reducible refine (CB.out _ _ _ _ _ (hbS.alloc hbS.size _) ((hr5.alloc (Nat.le_refl _) _).more (by simp)) hn5 hs5).mono ?_); rintro e w6 ⟨⟨A3, d3, A4, d4, ss', rfl, hT6, hz6, hl6, hp6⟩, hbS6, hbP⟩; have hF6 := (Blk.new w5 28 #[.slice none 0 0, .slice none 0 0]).stay hbP; have z0 := hF6.cell 0; have z1 := hF6.cell 1; have f0 := hF6.frozen 0; have f1 := hF6.frozen 1; have hbx := hbS.size; clear hbS; have hbS := hbS6; clear hbS6))))
      all_goals
        go_wp2_with fail
        go_meet
      · have hbn := (Below.refl w6.heap.size w6).alloc (Nat.le_refl _) (.cells #[.slice A3 n d3, .slice A4 (n + 1) d4] 28)
        exact ⟨rfl, _, A3, d3, A4, d4, ss', rfl, Lib.hid (Blk.new _ _ _), Lib.hid ((hT6.below hbn).more hbn.size), Lib.hid hz6, Lib.hid hl6, Lib.hid (hbS.alloc hbS.size _)⟩
      · have hts := tab_set hF6 (.slice A3 n d3) (.slice A4 (n + 1) d4) hT6 hp6
        exact ⟨rfl, _, A3, d3, A4, d4, ss', rfl, Lib.hid hts.1, Lib.hid hts.2, Lib.hid hz6, Lib.hid hl6, Lib.hid ((hbS.setCell (p := ⟨_, 0, none⟩) hbx _).setCell (p := ⟨_, 1, none⟩) hbx _)⟩
      · have hts := tab_set hF6 (.slice A3 n d3) (.slice A4 (n + 1) d4) hT6 hp6
        exact ⟨rfl, _, A3, d3, A4, d4, ss', rfl, Lib.hid hts.1, Lib.hid hts.2, Lib.hid hz6, Lib.hid hl6, Lib.hid ((hbS.setCell (p := ⟨_, 0, none⟩) hbx _).setCell (p := ⟨_, 1, none⟩) hbx _)⟩
    case rest =>
      obtain ⟨rfl, N, A3, d3, A4, d4, ss', rfl, HN, HTN, Hz, HlN, HbN⟩ := hcut
      have HTo := HT3
      have HBo := Lib.hid (HB2.out.stay HbN.out)
      have HLo := Lib.hid (HL2.out.trans (HbN.out.mono HL2.out.size))
      have HTw := Lib.hid (HT3.out wc HbN.out)
      obtain ⟨z, hz⟩ : ∃ z, z = szT ss' := ⟨_, rfl⟩
      obtain ⟨Z, hZ⟩ : ∃ Z, Z = szT ss := ⟨_, rfl⟩
      have hle0 : (z : Int) ≤ (Z : Int) := by have := Hz.out; omega
      have C5 := Lib.hid (show ∀ u, Below wc.heap.size wc u → Calls Try.prog 21 #[.agg #[.slice A3 n d3, .slice A4 (n + 1) d4]] u fun e u' => e = .returned (.int .i64 (z : Int)) ∧ Below wc.heap.size wc u' from fun u hu =>
        (size_any A3 A4 n d3 (n + 1) d4 ws ss' u ((HTN.out.below hu).more hu.size) (by omega) HlN.out).mono fun e u' ⟨h1, h2⟩ => ⟨by rw [h1, hz], hu.trans (h2.mono hu.size)⟩)
      have C6 := Lib.hid (show ∀ u, Below wc.heap.size wc u → Calls Try.prog 22 #[.agg #[.slice A n c, .slice A' (n + 1) c']] u fun e u' => e = .returned (.int .i64 (Z : Int)) ∧ Below wc.heap.size wc u' from fun u hu =>
        (rsize_any A A' n c (n + 1) c' ws ss u ((HTw.out.below hu).more hu.size) (by omega) Hl9.out).mono fun e u' ⟨h1, h2⟩ => ⟨by rw [h1, hZ], hu.trans (h2.mono hu.size)⟩)
      have C7 := Lib.hid (show ∀ u, Below wc.heap.size wc u → Calls Try.prog 11 #[] u fun e u' => e = .returned (.bool true) ∧ Below wc.heap.size wc u' from fun u hu =>
        (awake_any u).mono fun e u' ⟨h1, h2⟩ => ⟨h1, hu.trans (h2.mono hu.size)⟩)
      have KK := Lib.hid (show ∀ u, Below wc.heap.size wc u → u.cell? ⟨w.heap.size, 0, none⟩ = some (.slice A n c) ∧ u.cell? ⟨w.heap.size, 1, none⟩ = some (.slice A' (n + 1) c') ∧ u.cell? ⟨N, 0, none⟩ = some (.slice A3 n d3) ∧ u.cell? ⟨N, 1, none⟩ = some (.slice A4 (n + 1) d4) from fun u hu =>
        ⟨(hu.cell HBo.out.lt).trans (HBo.out.cell 0), (hu.cell HBo.out.lt).trans (HBo.out.cell 1), (hu.cell HN.out.lt).trans (HN.out.cell 0), (hu.cell HN.out.lt).trans (HN.out.cell 1)⟩)
      have hbS : Below wc.heap.size wc wc.drew := (Below.refl _ _).drew
      clear hz hZ K CV CB HT3 HTo hN0 HbD HbA HF0
      go_wp2_with fail
      go_region_held3 (fun u => Below wc.heap.size wc u ∧ u.cell? ⟨w.heap.size, 0, none⟩ = some (.slice A n c) ∧ u.cell? ⟨w.heap.size, 1, none⟩ = some (.slice A' (n + 1) c') ∧ u.cell? ⟨N, 0, none⟩ = some (.slice A3 n d3) ∧ u.cell? ⟨N, 1, none⟩ = some (.slice A4 (n + 1) d4)) (first | exact ⟨hbS, KK.out _ hbS⟩) (first | (go_at_call 21; (with_reducible refine (C5.out _ hbS).mono ?_); rintro e u ⟨rfl, hbu⟩; clear hbS; have hbS := hbu; clear hbu) | (go_at_call 22; (with_reducible refine (C6.out _ hbS).mono ?_); rintro e u ⟨rfl, hbu⟩; clear hbS; have hbS := hbu; clear hbu) | (go_at_call 11; (with_reducible refine (C7.out _ hbS).mono ?_); rintro e u ⟨rfl, hbu⟩; clear hbS; have hbS := hbu; clear hbu))
      all_goals (have HE := Lib.hid (HLo.out.trans (hbS.mono HLo.out.size)); clear hbS)
      all_goals (go_wp2; go_ret; exact ⟨rfl, HE.out⟩)
end Go.Proofs.Ytnlmikefihaldaa
