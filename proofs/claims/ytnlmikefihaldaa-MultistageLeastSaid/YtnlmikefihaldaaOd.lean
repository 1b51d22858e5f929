/- The reference's reached. -/
import Derived.Test.YtnlmikefihaldaaOc
namespace Go.Proofs.Ytnlmikefihaldaa
open Go.RowKit

theorem cntS_pos {ws : List Int} {ss : List (List Int)} (h : formedT ws ss) : ∀ s, s ≤ ws.length → 0 < cntS ws ss s
  | 0, _ => by simp [cntS]
  | s + 1, hs => by
    have h1 := cntS_pos h s (by omega)
    have h2 : 0 < (stg ss s).length := by rw [lenS h (by omega)]; exact Nat.mul_pos h1 (nS_pos h s)
    have := entS h (by omega) (List.getElem_mem h2)
    omega
def blv (b : Bool) : Value := .bool b
/-- which blocks are reached, in memory -/
def ReaE (ws : List Int) (ss : List (List Int)) (s B : Nat) (e : Ending) (w' : World) : Prop :=
  ∃ (A : Option Addr) (c : Nat) (bs : List Bool), e = .returned (.slice A (cntS ws ss s) c) ∧ Reads w' w'.heap.size 1 A (cntS ws ss s) (bs.map blv) ∧ (∀ ad, A = some ad → B ≤ ad.block) ∧ ∀ i, i < cntS ws ss s → (bs.getD i false = true ↔ reachP ws ss s i)
/-- the row while it is made -/
def ReaR (ws : List Int) (ss : List (List Int)) (k C i g : Nat) (w : World) : Prop :=
  ∃ bs : List Bool, Blk w g 4 (bs.map blv).toArray ∧ bs.length = C ∧ ∀ x, x < C → (bs.getD x false = true ↔ ∃ p, p < i ∧ reachP ws ss k (p / nS ws ss k) ∧ (stg ss k).getD p 0 = (x : Int))
theorem rea_keep {ws : List Int} {ss : List (List Int)} {k C i g : Nat} {w : World} (h : ReaR ws ss k C i g w) (hn : ¬ reachP ws ss k (i / nS ws ss k)) : ReaR ws ss k C (i + 1) g w := by
  obtain ⟨bs, h1, h2, h3⟩ := h
  refine ⟨bs, h1, h2, fun x hx => (h3 x hx).trans ⟨fun ⟨p, a, b, c⟩ => ⟨p, by omega, b, c⟩, fun ⟨p, a, b, c⟩ => ⟨p, ?_, b, c⟩⟩⟩
  rcases Nat.lt_or_ge p i with h | h
  · exact h
  · have : p = i := by omega
    subst this
    exact absurd b hn
theorem rea_put {ws : List Int} {ss : List (List Int)} {k C i g y : Nat} {w : World} (h : ReaR ws ss k C i g w) (hn : reachP ws ss k (i / nS ws ss k)) (hy : (stg ss k).getD i 0 = (y : Int)) (hyC : y < C) : ReaR ws ss k C (i + 1) g (w.setCell ⟨g, y, none⟩ (.bool true)) := by
  obtain ⟨bs, h1, h2, h3⟩ := h
  refine ⟨bs.set y true, ?_, by simp [h2], fun x hx => ?_⟩
  · have := h1.set_ y (.bool true)
    have e : (bs.map blv).toArray.setIfInBounds y (.bool true) = ((bs.set y true).map blv).toArray := by simp [List.map_set, blv]
    rw [e] at this
    exact this
  · by_cases hxy : x = y
    · subst hxy
      have : (bs.set x true).getD x false = true := by simp [List.getD, h2, hx]
      rw [this]
      exact ⟨fun _ => ⟨i, by omega, hn, hy⟩, fun _ => rfl⟩
    · have : (bs.set y true).getD x false = bs.getD x false := by simp [List.getD, Ne.symm hxy]
      rw [this]
      refine (h3 x hx).trans ⟨fun ⟨p, a, b, c⟩ => ⟨p, by omega, b, c⟩, fun ⟨p, a, b, c⟩ => ⟨p, ?_, b, c⟩⟩
      rcases Nat.lt_or_ge p i with h | h
      · exact h
      · have : p = i := by omega
        subst this
        rw [hy] at c
        exact absurd (Int.ofNat_inj.1 c).symm hxy
theorem Try.infoT4 : (Try.prog.info? 4).map (fun i => (i.zero, i.size, i.bytes)) = some (some (.bool false), 1, 1) := by kernel_rfl

set_option maxRecDepth 100000 in
set_option maxHeartbeats 8000000 in
theorem reached_zero (A A' : Option Addr) (n c n' c' : Nat) (ws : List Int) (ss : List (List Int)) (w : World) : Calls Try.prog 56 #[.agg #[.slice A n c, .slice A' n' c'], .int .i64 0] w fun e w' => ReaE ws ss 0 w.heap.size e w' ∧ Below w.heap.size w w' := by
  go_enter Try.func56, Try.ntmps56
  go_wp2_with fail
  go_ret
  refine ⟨⟨some ⟨w.heap.size + 1, 0, none⟩, 1, [true], rfl, ?_, fun ad h => by injection h with h; subst h; simp, fun i hi => ?_⟩, ?_⟩
  · exact ⟨rfl, fun _ => ⟨_, rfl, by simp, fun t u ht => by
      cases t with
      | zero => simp [blv] at ht; subst ht; rw [add_zero_]; simp
      | succ t => simp at ht⟩⟩
  · have : i = 0 := by simp [cntS] at hi; exact hi
    subst this
    simp [reachP]
  · exact ((Below.refl _ _).alloc (Nat.le_refl _) _).alloc (by simp) _
set_option maxRecDepth 100000 in
set_option maxHeartbeats 8000000 in
theorem reached_step (A A' : Option Addr) (n c n' c' : Nat) (ws : List Int) (ss : List (List Int)) (hf : formedT ws ss) (hl : ∀ i, (stg ss i).length ≤ 12000) (k s : Nat) (hks : s = k + 1) (hk : k < ws.length)
    (ih : ∀ w, Tab w w.heap.size A n c A' n' c' ws ss → Calls Try.prog 56 #[.agg #[.slice A n c, .slice A' n' c'], .int .i64 (k : Int)] w fun e w' => ReaE ws ss k w.heap.size e w' ∧ Below w.heap.size w w')
    (w : World) (h : Tab w w.heap.size A n c A' n' c' ws ss) : Calls Try.prog 56 #[.agg #[.slice A n c, .slice A' n' c'], .int .i64 (s : Int)] w fun e w' => ReaE ws ss s w.heap.size e w' ∧ Below w.heap.size w w' := by
  obtain ⟨hl1, hl2⟩ := h.len
  have hw := hf.1
  have hn3 : 1 ≤ n ∧ n ≤ 3 := by have := hw.1; have := hw.2.1; omega
  obtain ⟨hn1, hn3⟩ := hn3
  have hnn : n' = n + 1 := by have := hf.2.1; omega
  subst hnn
  have hkn : k < n := by omega
  have hL : Below w.heap.size w (w.alloc (.cells #[.slice A n c, .slice A' (n + 1) c'] 28)) := (Below.refl _ w).alloc (Nat.le_refl _) _
  have HB := Lib.hid (Blk.new w 28 #[.slice A n c, .slice A' (n + 1) c'])
  have HT := Lib.hid ((h.below hL).more hL.size)
  have HL := Lib.hid hL
  have Hl1 := Lib.hid hl1
  have Hf := Lib.hid hf
  have Hln := Lib.hid hl
  have Hih := Lib.hid ih
  clear hl1 hl2 hL h hf hl ih hw
  go_enter Try.func56, Try.ntmps56
  have hs0 : ((s : Int) == 0) = false := by simp; omega
  go_upto_region 3 with fail
  obtain ⟨W, hW⟩ : ∃ W, W = w.alloc (.cells #[.slice A n c, .slice A' (n + 1) c'] 28) := ⟨_, rfl⟩
  rw [← hW] at HB HT HL ⊢
  clear hW
  obtain ⟨ad, A2, c2, rfl, had, hc0, _, hr2⟩ := HT.out.at_ (k := s) (by omega)
  obtain ⟨ad4, X, rfl, had4, hc4, hX, hX1, hX2⟩ := HT.out.width Hf.out.1 (show k < n by omega)
  obtain ⟨L1, hL1⟩ : ∃ L1, L1 = (stg ss s).length := ⟨_, rfl⟩
  rw [← hL1] at hc0 hr2
  have HL1 := Lib.hid hL1
  have hL1b : L1 ≤ 12000 := by rw [hL1]; exact Hln.out s
  obtain ⟨C, hC⟩ : ∃ C, C = cntS ws ss s := ⟨_, rfl⟩
  obtain ⟨M, hM⟩ : ∃ M, M = 2 ^ X := ⟨_, rfl⟩
  have hpw := pow_wrap16 X (by omega)
  rw [← hM] at hpw
  rw [show k = s - 1 by omega] at hc4
  have hCM : C = L1 / M := by rw [hC, hL1, hM, hX, hks]; rfl
  have hM0 : 0 < M := by rw [hM]; exact Nat.two_pow_pos _
  have HC := Lib.hid hC
  have hCb : C ≤ 12000 := by rw [hCM]; exact Nat.le_trans (Nat.div_le_self _ _) hL1b
  obtain ⟨i1, a1, a2, a3, a4⟩ := info_parts Try.infoT4
  obtain ⟨Z1, hZ1, hZ1k, hmk1⟩ := mk_any 90 4 i1 (.bool false) 1 Try.underlying90 a1 a2 a3 a4 (by omega) rfl C (by omega)
  clear a1 a2 a3 a4
  have hdv : Int.tdiv (L1 : Int) (M : Int) = (C : Int) := by rw [hCM]; exact (Int.ofNat_tdiv L1 M).symm
  have hMi : (M : Int) ≠ 0 := by omega
  have HZ1 := Lib.hid (And.intro hZ1 hZ1k)
  have K := Lib.hid (show ∀ u, Below W.heap.size W u → (u.cell? ⟨w.heap.size, 0, none⟩ = some (.slice (some ad4) n c) ∧ u.cell? ⟨w.heap.size, 1, none⟩ = some (.slice (some ad) (n + 1) c')) ∧ u.cell? (ad.add s) = some (.slice A2 L1 c2) ∧ u.cell? (ad4.add (s - 1)) = some (.int .i64 (X : Int)) from fun u hu => ⟨⟨(HB.out.stay hu).cell 0, (HB.out.stay hu).cell 1⟩, (hu.cell (p := ad.add s) (by unfold Addr.add; split <;> exact had)).trans hc0, (hu.cell (p := ad4.add (s - 1)) (by unfold Addr.add; split <;> exact had4)).trans hc4⟩)
  have hk0 : (0 : Int) ≤ (s : Int) - 1 := by omega
  have hk1 : (s : Int) - 1 < (n : Int) := by omega
  have hk2 : (s : Int) < (n : Int) + 1 := by omega
  have hk3 : (0 : Int) ≤ (s : Int) := by omega
  have HKS := Lib.hid hks
  have hkn' : s ≤ n := by omega
  have hwr : IntKind.i64.wrap ((s : Int) - 1) = (s : Int) - 1 := IntWalk.i64_in _ (by omega)
  have hwC : IntKind.i64.wrap (C : Int) = (C : Int) := IntWalk.i64_in _ (by omega)
  have hMn : M ≠ 0 := by omega
  have hk4 : (1 : Int) ≤ (s : Int) := by omega
  clear hZ1 hZ1k hC hL1 hX hM hCM hr2 hc0 hc4 hks
  have HbD := Lib.hid ((Below.refl W.heap.size W).drew)
  have HbA := Lib.hid (((Below.refl W.heap.size W).alloc (Nat.le_refl _) (.cells Z1 4)).drew)
  go_cut [5] (fun s5 wx => s5 = .slice (some ⟨W.heap.size, 0, none⟩) C C ∧ Hid (Blk wx W.heap.size 4 Z1) ∧ Hid (Below W.heap.size W wx))
  case first =>
    go_region_held3 (fun u => (u.cell? ⟨w.heap.size, 0, none⟩ = some (.slice (some ad4) n c) ∧ u.cell? ⟨w.heap.size, 1, none⟩ = some (.slice (some ad) (n + 1) c')) ∧ u.cell? (ad.add s) = some (.slice A2 L1 c2) ∧ u.cell? (ad4.add (s - 1)) = some (.int .i64 (X : Int))) (first | exact K.out _ HbD.out | exact K.out _ HbA.out) (fail)
    all_goals
      go_wp2_with fail
      go_meet
      exact ⟨rfl, Lib.hid (Blk.new _ _ _).drew, HbA⟩
  case rest =>
    obtain ⟨rfl, HZ, HBl⟩ := hcut
    have HT1 := Lib.hid ((HT.out.below HBl.out).more HBl.out.size)
    have HI := Lib.hid (show Calls Try.prog 56 #[.agg #[.slice (some ad4) n c, .slice (some ad) (n + 1) c'], .int .i64 ((s : Int) - 1)] wc fun e w' => ReaE ws ss k wc.heap.size e w' ∧ Below wc.heap.size wc w' by rw [show (s : Int) - 1 = (k : Int) by have := HKS.out; omega]; exact Hih.out wc HT1.out)
    obtain ⟨⟨g0, g1⟩, _, _⟩ := K.out wc HBl.out
    clear hmk1 hdv hMi hM0 hMn hpw
    go_wp2_with fail
    refine HI.out.mono ?_
    rintro e w5 ⟨⟨A6, c6, bs, rfl, hr6, hge6, hbs⟩, hb6⟩
    obtain ⟨C6, hC6⟩ : ∃ C6, C6 = cntS ws ss k := ⟨_, rfl⟩
    rw [← hC6] at hr6 hbs ⊢
    obtain ⟨N, hN⟩ : ∃ N, N = nS ws ss k := ⟨_, rfl⟩
    have hN0 : 0 < N := by rw [hN]; exact nS_pos Hf.out k
    have hC60 : 0 < C6 := by rw [hC6]; exact cntS_pos Hf.out k (by omega)
    obtain ⟨Lk, hLk⟩ : ∃ Lk, Lk = (stg ss k).length := ⟨_, rfl⟩
    have hLkb : Lk ≤ 12000 := by rw [hLk]; exact Hln.out k
    have hLCN : Lk = C6 * N := by rw [hLk, hC6, hN]; exact lenS Hf.out (by omega)
    have hC6b : C6 ≤ 12000 := by
      have : C6 * 1 ≤ C6 * N := Nat.mul_le_mul_left _ hN0
      omega
    have hNb : N ≤ 12000 := by
      have : 1 * N ≤ C6 * N := Nat.mul_le_mul_right _ hC60
      omega
    have hd6 : Int.tdiv (Lk : Int) (C6 : Int) = (N : Int) := by rw [← Int.ofNat_tdiv, hLCN, Nat.mul_div_cancel_left _ hC60]
    have hwN : IntKind.i64.wrap (N : Int) = (N : Int) := IntWalk.i64_in _ (by omega)
    have hC6i : (C6 : Int) ≠ 0 := by omega
    have hC6n : C6 ≠ 0 := by omega
    obtain ⟨ad', A3, c3, hA, hadk, hck, _, hr3⟩ := HT.out.at_ (k := k) (by omega)
    injection hA with hA
    subst hA
    rw [← hLk] at hck hr3
    rw [show k = s - 1 by have := HKS.out; omega] at hck
    have HK2 := Lib.hid (show ∀ u : World, (∀ b, b ≠ W.heap.size → b < w5.heap.size → u.heap[b]? = w5.heap[b]?) → u.cell? ⟨w.heap.size, 1, none⟩ = some (.slice (some ad) (n + 1) c') ∧ u.cell? (ad.add (s - 1)) = some (.slice A3 Lk c3) from fun u hu => by
      have hWw := HL.out.size
      have hbW := (HB.out).lt
      have h5 := Nat.le_trans HBl.out.size hb6.size
      have hx : ∀ b, b < W.heap.size → u.heap[b]? = W.heap[b]? := fun b hb => (hu b (by omega) (by omega)).trans ((hb6.block b (by have := HBl.out.size; omega)).trans (HBl.out.block b hb))
      exact ⟨(World.cell?_of_block (hx w.heap.size hbW)).trans (HB.out.cell 1), (World.cell?_of_block (by unfold Addr.add; split <;> exact hx _ hadk)).trans hck⟩)
    have HR3 := Lib.hid hr3
    have HR6 := Lib.hid hr6
    have HG6 := Lib.hid hge6
    have Hbs := Lib.hid hbs
    have HN := Lib.hid hN
    have HLk := Lib.hid hLk
    have HLCN := Lib.hid hLCN
    have HC6 := Lib.hid hC6
    have HB6 := Lib.hid hb6
    have HL5 := Lib.hid (HL.out.trans ((HBl.out.trans (hb6.mono HBl.out.size)).mono HL.out.size))
    obtain ⟨g1', d1⟩ := HK2.out w5 (fun _ _ _ => rfl)
    have hB5 : Blk w5 W.heap.size 4 Z1 := (HZ.out).stay hb6
    have HRR := Lib.hid (show ReaR ws ss k C 0 W.heap.size w5 from by
      refine ⟨List.replicate C false, ?_, by simp, fun x hx => ?_⟩
      · have e : ((List.replicate C false).map blv).toArray = Z1 := by
          apply Array.ext
          · simp [HZ1.out.1]
          · intro i h1 h2
            have := HZ1.out.2 i (by rw [HZ1.out.1] at h2; exact h2)
            rw [Array.getElem?_eq_getElem h2] at this
            injection this with this
            rw [this]
            simp [blv]
        rw [e]; exact hB5
      · constructor
        · intro h
          simp [List.getD, hx] at h
        · rintro ⟨p, h, _⟩; omega)
    clear hr3 hr6 hge6 hbs hN hLk hLCN hC6 hb6 hB5 hck g0 g1
    go_wp2_with fail
    obtain ⟨g, hg⟩ : ∃ g, g = W.heap.size := ⟨_, rfl⟩
    rw [← hg] at HRR HK2 ⊢
    have Hg := Lib.hid hg
    clear hg g1' d1
    go_loopw [8] (fun s8 wx => ∃ i : Nat, i ≤ Lk ∧ s8 = .int .i64 (i : Int) ∧ Hid (ReaR ws ss k C i g wx) ∧ Hid (∀ b, b ≠ g → b < w5.heap.size → wx.heap[b]? = w5.heap[b]?) ∧ Hid (Below w.heap.size w wx) ∧ Hid (wx.heap.size = w5.heap.size)) (fun s8 _ => Lk - (intOf s8).toNat)
    case atStart => exact ⟨0, by omega, rfl, HRR, Lib.hid (fun _ _ _ => rfl), HL5, Lib.hid rfl⟩
    case round =>
      obtain ⟨i, hi, rfl, HRi, HFr, HBi, HSi⟩ := hrel
      obtain ⟨g1, d1⟩ := HK2.out wr HFr.out
      by_cases hlt : i < Lk
      · have hii : (i : Int) < (Lk : Int) := by omega
        have hiN : i / N < C6 := by rw [Nat.div_lt_iff_lt_mul hN0, ← HLCN.out]; exact hlt
        have hdv : Int.tdiv (i : Int) (N : Int) = ((i / N : Nat) : Int) := (Int.ofNat_tdiv i N).symm
        obtain ⟨q, hq⟩ : ∃ q, q = i / N := ⟨_, rfl⟩
        rw [← hq] at hiN hdv
        have hNi : (N : Int) ≠ 0 := by omega
        have hNn : N ≠ 0 := by omega
        have hqi : (q : Int) < (C6 : Int) := by omega
        have hwq : IntKind.i64.wrap (q : Int) = (q : Int) := IntWalk.i64_in _ (by omega)
        obtain ⟨a6, b6, rfl, hb6l, hbe, hbc⟩ := HR6.out.at_ hiN
        have hne6 : a6.block ≠ g := by have := HG6.out a6 rfl; have := HBl.out.size; have := HZ.out.lt; rw [Hg.out]; omega
        rw [List.getElem?_map] at hbe
        obtain ⟨b, hb, rfl⟩ : ∃ b, bs[q]? = some b ∧ b6 = blv b := by
          cases hbq : bs[q]? with
          | none => rw [hbq] at hbe; simp at hbe
          | some b => rw [hbq] at hbe; simp at hbe; exact ⟨b, rfl, hbe.symm⟩
        have Hbq := Lib.hid (show b = true ↔ reachP ws ss k (i / nS ws ss k) by
          rw [← HN.out, ← hq]
          have := Hbs.out q hiN
          rw [show bs.getD q false = b by simp [List.getD, hb]] at this
          exact this)
        have d2 : wr.cell? (a6.add q) = some (.bool b) := (World.cell?_of_block (by unfold Addr.add; split <;> exact HFr.out _ hne6 hb6l)).trans hbc
        clear hbe hb hbc hq
        cases b with
        | false =>
          go_wp2_with fail
          go_roundw
          all_goals (first | exact ⟨i + 1, by omega, by simp, Lib.hid (rea_keep HRi.out (fun h => by have := Hbq.out.2 h; cases this)), HFr, HBi, HSi⟩ | (simp [intOf]; omega))
        | true =>
          obtain ⟨a3, x3, rfl, ha3, hxe, hcx⟩ := HR3.out.at_ hlt
          rw [List.getElem?_map] at hxe
          have hil : i < (stg ss k).length := by rw [← HLk.out]; exact hlt
          rw [List.getElem?_eq_getElem hil] at hxe
          simp only [Option.map_some, Option.some.injEq] at hxe
          obtain ⟨x, hx⟩ : ∃ x, x = (stg ss k)[i] := ⟨_, rfl⟩
          rw [← hx] at hxe
          unfold iv at hxe
          subst hxe
          obtain ⟨hx0, hx1⟩ := entS Hf.out (s := k) (by omega) (show x ∈ stg ss k by rw [hx]; exact List.getElem_mem _)
          obtain ⟨y, rfl⟩ : ∃ y : Nat, x = (y : Int) := ⟨x.toNat, by omega⟩
          have hyC : y < C := by rw [HC.out, HKS.out]; omega
          have Hy := Lib.hid (show (stg ss k).getD i 0 = (y : Int) by rw [List.getD_eq_getElem?_getD, List.getElem?_eq_getElem hil, ← hx]; rfl)
          have hne3 : a3.block ≠ g := by rw [Hg.out]; exact Nat.ne_of_lt ha3
          have d3 : wr.cell? (a3.add i) = some (.int .i64 (y : Int)) := (World.cell?_of_block (by
            unfold Addr.add
            split <;> exact (HFr.out _ hne3 (by have := HBl.out.size; have := HB6.out.size; omega)).trans ((HB6.out.block _ (by have := HBl.out.size; omega)).trans (HBl.out.block _ ha3)))).trans hcx
          have hyi : (y : Int) < (C : Int) := by omega
          have Hput := Lib.hid (rea_put HRi.out (Hbq.out.1 rfl) Hy.out hyC)
          obtain ⟨bs2, hbk, hbl, _⟩ := HRi.out
          have d4 : wr.cell? ⟨g, y, none⟩ = some (blv (bs2.getD y false)) := by
            rw [hbk.cell]
            simp [List.getD, hbl, hyC]
          have d5 := hbk.frozen y
          unfold blv at d4
          have HgB := Lib.hid (show w.heap.size ≤ g by rw [Hg.out]; exact HL.out.size)
          clear hx hx0 hx1 hil hne3 hcx hbk hbl hyC ha3
          go_wp2_with fail
          go_roundw
          all_goals (first | exact ⟨i + 1, by omega, by simp, Hput, Lib.hid (fun b h1 h2 => (Below.heap_setCell _ _ _ b h1).trans (HFr.out b h1 h2)), Lib.hid (HBi.out.setCell (p := ⟨g, y, none⟩) HgB.out _), Lib.hid (by simp [World.setCell]; exact HSi.out)⟩ | (simp [intOf]; omega))
      · have hie : i = Lk := by omega
        subst hie
        have hii : ¬ (i : Int) < (i : Int) := by omega
        obtain ⟨bs2, hbk, hbl, hbp⟩ := HRi.out
        have HE := Lib.hid (show ReaE ws ss s w.heap.size (.returned (.slice (some ⟨g, 0, none⟩) C C)) wr from by
          refine ⟨_, _, bs2, by rw [← HC.out], ⟨by simp [hbl, HC.out], fun _ => ⟨_, rfl, hbk.lt, fun t u ht => ?_⟩⟩, fun ad h => by injection h with h; subst h; show w.heap.size ≤ g; rw [Hg.out]; exact HL.out.size, fun j hj => ?_⟩
          · rw [show (⟨g, 0, none⟩ : Addr).add t = ⟨g, t, none⟩ by unfold Addr.add; split <;> simp_all, hbk.cell]
            simpa using ht
          · rw [← HC.out] at hj
            rw [hbp j hj, HKS.out, HLk.out]
            rfl)
        clear hbk hbl hbp
        go_wp2_with fail
        go_ret
        exact ⟨HE.out, HBi.out⟩
theorem reached_any (A A' : Option Addr) (n c n' c' : Nat) (ws : List Int) (ss : List (List Int)) (hf : formedT ws ss) (hl : ∀ i, (stg ss i).length ≤ 12000) :
    ∀ s, s ≤ ws.length → ∀ w, Tab w w.heap.size A n c A' n' c' ws ss → Calls Try.prog 56 #[.agg #[.slice A n c, .slice A' n' c'], .int .i64 (s : Int)] w fun e w' => ReaE ws ss s w.heap.size e w' ∧ Below w.heap.size w w'
  | 0, _, w, _ => reached_zero A A' n c n' c' ws ss w
  | k + 1, hs, w, h => reached_step A A' n c n' c' ws ss hf hl k (k + 1) rfl (by omega) (fun w h => reached_any A A' n c n' c' ws ss hf hl k (by omega) w h) w h
end Go.Proofs.Ytnlmikefihaldaa
