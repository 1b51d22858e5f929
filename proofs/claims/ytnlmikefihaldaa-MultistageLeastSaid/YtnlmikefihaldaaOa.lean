/- The reference's edges and Changes: they return (what they say is not wanted). -/
import Derived.Test.YtnlmikefihaldaaMl
import Derived.Test.YtnlmikefihaldaaTg
import Derived.Deep.RegionHeld3
namespace Go.Proofs.Ytnlmikefihaldaa
open Go.RowKit

/-- how many blocks a stage has, and how many numbers a block has -/
def cntS (ws : List Int) (ss : List (List Int)) : Nat → Nat
  | 0 => 1
  | k + 1 => cnt ws ss k
def nS (ws : List Int) (ss : List (List Int)) : Nat → Nat
  | 0 => (stg ss 0).length
  | k + 1 => nb ws k
theorem lenS {ws : List Int} {ss : List (List Int)} (h : formedT ws ss) {s : Nat} (hs : s ≤ ws.length) : (stg ss s).length = cntS ws ss s * nS ws ss s := by
  cases s with
  | zero => simp [cntS, nS]
  | succ k => exact (formed_cnt h (by omega)).1
theorem nS_pos {ws : List Int} {ss : List (List Int)} (h : formedT ws ss) (s : Nat) : 0 < nS ws ss s := by
  cases s with
  | zero =>
    show 0 < (stg ss 0).length
    rw [h.2.2.1]
    exact Nat.div_pos (Nat.le_trans (Nat.pow_le_pow_right (n := 2) (by decide) (show ws.sum.toNat ≤ 16 by have := h.1.2.2.2; omega)) (by decide)) (Nat.two_pow_pos _)
  | succ k => exact nb_pos _ _
theorem entS {ws : List Int} {ss : List (List Int)} (h : formedT ws ss) {s : Nat} (hs : s < ws.length) {x : Int} (hx : x ∈ stg ss s) : 0 ≤ x ∧ x < (cntS ws ss (s + 1) : Nat) := (formed_cnt h hs).2 x hx
/-- edges in memory -/
def EdgE (w' : World) (n : Nat) (e : Ending) : Prop := ∃ (A : Option Addr) (c : Nat) (es : List (Int × Int × Int)), e = .returned (.slice A n c) ∧ Reads w' w'.heap.size 3 A n (es.flatMap spv)
theorem Try.infoT74 : (Try.prog.info? 74).map (fun i => (i.zero, i.size, i.bytes)) = some (some (.agg #[.int .i64 0, .int .i64 0, .int .i64 0]), 3, 24) := by kernel_rfl
/-- the row of edges while it is made -/
def EdgRow (B n : Nat) (v : Value) (w : World) : Prop := ∃ es : List (Int × Int × Int), w.ownsRow B 74 3 v n (es.flatMap spv)
/-- a box of an edge -/
def EdgBox (b : Nat) (w : World) : Prop := ∃ x y z : Int, Blk w b 74 #[.int .i64 x, .int .i64 y, .int .i64 z]

theorem box_set0 {b : Nat} {w : World} (h : EdgBox b w) (v : Int) : EdgBox b (w.setCell ⟨b, 0, none⟩ (.int .i64 v)) := by obtain ⟨x, y, z, h⟩ := h; exact ⟨v, y, z, by simpa using h.set_ 0 (.int .i64 v)⟩
theorem box_set1 {b : Nat} {w : World} (h : EdgBox b w) (v : Int) : EdgBox b (w.setCell ⟨b, 1, none⟩ (.int .i64 v)) := by obtain ⟨x, y, z, h⟩ := h; exact ⟨x, v, z, by simpa using h.set_ 1 (.int .i64 v)⟩
theorem box_set2 {b : Nat} {w : World} (h : EdgBox b w) (v : Int) : EdgBox b (w.setCell ⟨b, 2, none⟩ (.int .i64 v)) := by obtain ⟨x, y, z, h⟩ := h; exact ⟨x, y, v, by simpa using h.set_ 2 (.int .i64 v)⟩
theorem box_far {b b' : Nat} {w : World} (h : EdgBox b w) (hne : b ≠ b') (k : Nat) (v : Value) : EdgBox b (w.setCell ⟨b', k, none⟩ v) := by obtain ⟨x, y, z, h⟩ := h; exact ⟨x, y, z, h.far (p := ⟨b', k, none⟩) hne _⟩
set_option maxRecDepth 100000 in
set_option maxHeartbeats 8000000 in
theorem edges_step (A A' : Option Addr) (n c n' c' : Nat) (ws : List Int) (ss : List (List Int)) (hf : formedT ws ss) (hl : ∀ i, (stg ss i).length ≤ 12000) (s : Nat) (hs : s ≤ ws.length)
    (ih : s < ws.length → ∀ w, Tab w w.heap.size A n c A' n' c' ws ss → Calls Try.prog 49 #[.agg #[.slice A n c, .slice A' n' c'], .int .i64 ((s : Int) + 1)] w fun e w' => EdgE w' (cntS ws ss (s + 1)) e ∧ Below w.heap.size w w')
    (w : World) (h : Tab w w.heap.size A n c A' n' c' ws ss) : Calls Try.prog 49 #[.agg #[.slice A n c, .slice A' n' c'], .int .i64 (s : Int)] w fun e w' => EdgE w' (cntS ws ss s) e ∧ Below w.heap.size w w' := by
  obtain ⟨hl1, hl2⟩ := h.len
  have hw := hf.1
  have hn3 : 1 ≤ n ∧ n ≤ 3 := by have := hw.1; have := hw.2.1; omega
  obtain ⟨hn1, hn3⟩ := hn3
  have hnn : n' = n + 1 := by have := hf.2.1; omega
  subst hnn
  have hsn : s ≤ n := by omega
  have hL : Below w.heap.size w (w.alloc (.cells #[.slice A n c, .slice A' (n + 1) c'] 28)) := (Below.refl _ w).alloc (Nat.le_refl _) _
  have HB := Lib.hid (Blk.new w 28 #[.slice A n c, .slice A' (n + 1) c'])
  have HT := Lib.hid ((h.below hL).more hL.size)
  have HL := Lib.hid hL
  have Hl1 := Lib.hid hl1
  have Hf := Lib.hid hf
  have Hln := Lib.hid hl
  have Hih := Lib.hid ih
  clear hl1 hl2 hL h hf hl ih hw hs
  have g0 := HB.out.cell 0
  have g1 := HB.out.cell 1
  obtain ⟨ad, A2, c2, hA, had, hc0, _, _⟩ := HT.out.at_ (k := 0) (by omega)
  rw [add_zero_] at hc0
  obtain ⟨L0, hL0⟩ : ∃ L0, L0 = (stg ss 0).length := ⟨_, rfl⟩
  rw [← hL0] at hc0
  have HL0 := Lib.hid hL0
  have hL0b : L0 ≤ 12000 := by rw [hL0]; exact Hln.out 0
  subst hA
  clear hL0
  go_enter Try.func49, Try.ntmps49
  go_upto_if 19 with fail
  obtain ⟨W, hW⟩ : ∃ W, W = w.alloc (.cells #[.slice A n c, .slice (some ad) (n + 1) c'] 28) := ⟨_, rfl⟩
  rw [← hW] at HB HT HL g0 g1 had hc0 ⊢
  clear hW
  go_cut [5] (fun s5 wx => s5 = .int .i64 ((nS ws ss s : Nat) : Int) ∧ wx = W)
  case first =>
    rcases Nat.eq_zero_or_pos s with hz | hz
    · have H := Lib.hid (show nS ws ss s = L0 by rw [hz]; exact HL0.out.symm)
      have hd : ¬ 0 < s := by omega
      clear hz
      go_wp2
      go_meet
      exact ⟨by rw [H.out], rfl⟩
    · obtain ⟨k, hk⟩ : ∃ k, k = s - 1 := ⟨s - 1, rfl⟩
      have hsk : s = k + 1 := by omega
      have hik : (s : Int) - 1 = (k : Int) := by omega
      obtain ⟨ad4, X, hA4, had4, hc4, hX, hX1, hX2⟩ := HT.out.width Hf.out.1 (show k < n by omega)
      subst hA4
      have H := Lib.hid (show ((nS ws ss s : Nat) : Int) = ((2 ^ X : Nat) : Int) by rw [hX, hsk]; rfl)
      have hpw := pow_wrap16 X (by omega)
      have hc5 : W.cell? (ad4.add (s - 1)) = some (.int .i64 (X : Int)) := by rw [show s - 1 = k by omega]; exact hc4
      have hi0 : (0 : Int) ≤ (s : Int) - 1 := by omega
      have hi1 : (s : Int) - 1 < (n : Int) := by omega
      have hd : decide (0 < s) = true := decide_eq_true (by omega)
      clear hz hX hk hsk hik hc4
      obtain ⟨M, hM⟩ : ∃ M, M = 2 ^ X := ⟨_, rfl⟩
      rw [← hM] at H hpw
      clear hM
      go_wp2
      go_meet
      exact ⟨by rw [H.out], rfl⟩
  case rest =>
    obtain ⟨rfl, rfl⟩ := hcut
    obtain ⟨N, hN⟩ : ∃ N, N = nS ws ss s := ⟨_, rfl⟩
    obtain ⟨C, hC⟩ : ∃ C, C = cntS ws ss s := ⟨_, rfl⟩
    rw [← hN]
    have hN0 : 0 < N := by rw [hN]; exact nS_pos Hf.out s
    have hlen : (stg ss s).length = C * N := by rw [hN, hC]; exact lenS Hf.out (by rw [Hl1.out]; exact hsn)
    have HN := Lib.hid hN
    have HC := Lib.hid hC
    have Hlen := Lib.hid hlen
    clear hN hC hlen
    obtain ⟨C1, hC1⟩ : ∃ C1, C1 = cntS ws ss (s + 1) := ⟨_, rfl⟩
    have HC1 := Lib.hid hC1
    clear hC1
    go_upto_region 4 with fail
    go_cut [6] (fun s6 wx => s6 = .bool (decide (s = n)) ∧ wx = wc)
    case first =>
      have hse : ((s : Int) == (n : Int)) = decide (s = n) := by by_cases h : s = n <;> simp [h]; omega
      go_wp2
      go_meet
      exact ⟨rfl, rfl⟩
    case rest =>
    obtain ⟨rfl, rfl⟩ := hcut
    obtain ⟨D, hD⟩ : ∃ D, D = decide (s = n) := ⟨_, rfl⟩
    rw [← hD]
    have HD := Lib.hid hD
    clear hD
    go_upto_if 34 with fail
    go_cut [7] (fun s7 wx => ∃ (A7 : Option Addr) (n7 c7 : Nat), s7 = .slice A7 n7 c7 ∧ Hid (s < n → n7 = C1 ∧ ∃ es : List (Int × Int × Int), Reads wx wx.heap.size 3 A7 C1 (es.flatMap spv)) ∧ Hid (Below wc.heap.size wc wx))
    case first =>
      by_cases hz : s = n
      · obtain rfl : D = true := by rw [HD.out]; exact decide_eq_true hz
        have Hd := Lib.hid hz
        clear hz
        go_wp2_with fail
        go_meet
        exact ⟨_, _, _, rfl, Lib.hid fun h => by have := Hd.out; omega, Lib.hid (Below.refl _ _)⟩
      · obtain rfl : D = false := by rw [HD.out]; exact decide_eq_false hz
        have HI := Lib.hid (Hih.out (by rw [Hl1.out]; omega) wc HT.out)
        clear hz
        go_wp2_with fail
        refine HI.out.mono ?_
        rintro e w5 ⟨⟨A7, c7, es, rfl, hr7⟩, hb7⟩
        rw [← HC1.out] at hr7 ⊢
        have HE := Lib.hid (show s < n → C1 = C1 ∧ ∃ es : List (Int × Int × Int), Reads w5 w5.heap.size 3 A7 C1 (es.flatMap spv) from fun _ => ⟨rfl, es, hr7⟩)
        have HB7 := Lib.hid hb7
        clear hr7 hb7
        go_wp2_with fail
        go_meet
        exact ⟨A7, C1, c7, rfl, Lib.hid fun h => ⟨rfl, (HE.out h).2⟩, HB7⟩
    case rest =>
      obtain ⟨A7, n7, c7, rfl, H7, hB7⟩ := hcut
      have HT7 := Lib.hid ((HT.out.below hB7.out).more hB7.out.size)
      have HB' := Lib.hid (HB.out.stay hB7.out)
      have HL7 := Lib.hid (HL.out.trans (hB7.out.mono HL.out.size))
      obtain ⟨ad3, A3, c3, hA, had3, hc3, _, hr3⟩ := HT7.out.at_ (k := s) (by omega)
      injection hA with hA
      subst hA
      obtain ⟨L3, hL3⟩ : ∃ L3, L3 = (stg ss s).length := ⟨_, rfl⟩
      rw [← hL3] at hc3 hr3
      have HR3 := Lib.hid hr3
      have HL3 := Lib.hid hL3
      have hCN : L3 = C * N := by rw [hL3]; exact Hlen.out
      have hL3b : L3 ≤ 12000 := by rw [hL3]; exact Hln.out s
      have HCN := Lib.hid hCN
      clear g0 g1 hc0 had hr3 hL3 hCN
      have g1 := HB'.out.cell 1
      have hsi : (s : Int) < (n : Int) + 1 := by omega
      have hs0 : (0 : Int) ≤ (s : Int) := by omega
      obtain ⟨B, hB⟩ : ∃ B, B = wc.heap.size := ⟨_, rfl⟩
      have HBz := Lib.hid hB
      clear hB
      go_wp2_with fail
      go_loopw [8, 9] (fun s8 s9 wx => ∃ k at_ : Nat, k ≤ C ∧ s9 = .int .i64 (at_ : Int) ∧ Hid (at_ = k * N) ∧ Hid (EdgRow B k s8 wx) ∧ Hid (Below B wc wx)) (fun _ s9 _ => L3 - (intOf s9).toNat)
      case atStart => exact ⟨0, 0, by omega, rfl, Lib.hid (by simp), Lib.hid ⟨[], World.ownsRow_nil _ _ _ _⟩, Lib.hid (by rw [HBz.out]; exact Below.refl _ _)⟩
      case round =>
        obtain ⟨k, at_, hk, rfl, Hat, HE, HBx⟩ := hrel
        have HT9 := Lib.hid ((HT7.out.below (HBz.out ▸ HBx.out)).more (HBz.out ▸ HBx.out).size)
        have hbx := HBx.out
        rw [HBz.out] at hbx
        have HB9 := Lib.hid (HB'.out.stay hbx)
        have HR9 := Lib.hid ((HR3.out.below hbx).more hbx.size)
        have c1 := HB9.out.cell 1
        have c3' : wr.cell? (ad.add s) = some (.slice A3 L3 c3) := (hbx.cell (p := ad.add s) (by unfold Addr.add; split <;> exact had3)).trans hc3
        have hadr : ad.block < wr.heap.size := Nat.lt_of_lt_of_le had3 hbx.size
        have HL9 := Lib.hid (HL7.out.trans (hbx.mono HL7.out.size))
        have H79 := Lib.hid (show s < n → n7 = C1 ∧ ∃ es : List (Int × Int × Int), Reads wr wr.heap.size 3 A7 C1 (es.flatMap spv) from fun h => by
          obtain ⟨h1, es, h2⟩ := H7.out h
          exact ⟨h1, es, (h2.below hbx).more hbx.size⟩)
        clear hbx g1
        by_cases hlt : k < C
        · have hend : at_ + N ≤ L3 := by rw [Hat.out, HCN.out, ← Nat.succ_mul]; exact Nat.mul_le_mul_right _ hlt
          have hai : (at_ : Int) < (L3 : Int) := by omega
          go_wp2_with fail
          obtain ⟨W9, rfl⟩ : ∃ W9, W9 = wr := ⟨_, rfl⟩
          obtain ⟨b1, hb1⟩ : ∃ b1, b1 = W9.heap.size := ⟨_, rfl⟩
          rw [← hb1]
          have Hbox := Lib.hid (show EdgBox b1 (W9.alloc (.cells #[.int .i64 0, .int .i64 0, .int .i64 0] 74)) from ⟨0, 0, 0, by rw [hb1]; exact Blk.new _ _ _⟩)
          have Hbel := Lib.hid (show Below b1 W9 (W9.alloc (.cells #[.int .i64 0, .int .i64 0, .int .i64 0] 74)) by rw [hb1]; exact (Below.refl _ _).alloc (Nat.le_refl _) _)
          have Hb1 := Lib.hid hb1
          have HADR := Lib.hid hadr
          have HC3 := Lib.hid c3'
          clear hb1 c1 c3' hadr
          obtain ⟨wb, hwb⟩ : ∃ wb, wb = W9.alloc (.cells #[.int .i64 0, .int .i64 0, .int .i64 0] 74) := ⟨_, rfl⟩
          rw [← hwb] at Hbox Hbel ⊢
          clear hwb
          go_loopw [11] (fun s11 wy => ∃ i : Nat, at_ ≤ i ∧ i ≤ at_ + N ∧ s11 = .int .i64 (i : Int) ∧ Hid (EdgBox b1 wy) ∧ Hid (Below b1 W9 wy)) (fun s11 _ => at_ + N - (intOf s11).toNat)
          case atStart => exact ⟨at_, by omega, by omega, rfl, Hbox, Hbel⟩
          case round =>
            obtain ⟨i, hi1, hi2, rfl, HBX, HBy⟩ := hrel
            have hby := HBy.out
            rw [Hb1.out] at hby
            have HB10 := Lib.hid (HB9.out.stay hby)
            have c1 := HB10.out.cell 1
            have HR10 := Lib.hid ((HR9.out.below hby).more hby.size)
            have c3' : wr.cell? (ad.add s) = some (.slice A3 L3 c3) := (hby.cell (p := ad.add s) (by unfold Addr.add; split <;> exact HADR.out)).trans HC3.out
            by_cases hlt2 : i < at_ + N
            · have hiL : i < L3 := by omega
              obtain ⟨a3, xv, rfl, ha3, hxe, hcx⟩ := HR10.out.at_ hiL
              rw [List.getElem?_map] at hxe
              have hxi : i < (stg ss s).length := by rw [← HL3.out]; exact hiL
              rw [List.getElem?_eq_getElem hxi] at hxe
              simp only [Option.map_some, Option.some.injEq] at hxe
              obtain ⟨x, hx⟩ : ∃ x, x = (stg ss s)[i] := ⟨_, rfl⟩
              rw [← hx] at hxe
              unfold iv at hxe
              subst hxe
              have hxm : x ∈ stg ss s := by rw [hx]; exact List.getElem_mem _
              have Hx := Lib.hid (show s < n → ∃ y : Nat, x = (y : Int) ∧ y < C1 from fun h => by
                obtain ⟨h1, h2⟩ := entS Hf.out (by rw [Hl1.out]; exact h) hxm
                rw [← HC1.out] at h2
                exact ⟨x.toNat, by omega, by omega⟩)
              have hii : (i : Int) < (L3 : Int) := by omega
              have hit : (i : Int) < (at_ : Int) + (N : Int) := by omega
              have hi0 : (0 : Int) ≤ (i : Int) := by omega
              have K := Lib.hid (show ∀ u, Below wr.heap.size wr u → u.cell? ⟨w.heap.size, 1, none⟩ = some (.slice (some ad) (n + 1) c') ∧ u.cell? (ad.add s) = some (.slice (some a3) L3 c3) ∧ u.cell? (a3.add i) = some (.int .i64 x) from fun u hu => ⟨(HB10.out.stay hu).cell 1, (hu.cell (p := ad.add s) (by unfold Addr.add; split <;> exact Nat.lt_of_lt_of_le HADR.out hby.size)).trans c3', (hu.cell (p := a3.add i) (by unfold Addr.add; split <;> exact ha3)).trans hcx⟩)
              clear hx hxm hxi hiL ha3 hby
              go_upto_region 16 with fail
              have hN0 : Hid (wr.heap.size ≤ wr.heap.size) := Lib.hid (Nat.le_refl _)
              have HbD := Lib.hid ((Below.refl wr.heap.size wr).drew)
              have HbA := Lib.hid (((Below.refl wr.heap.size wr).alloc (Nat.le_refl _) (.cells #[.int .i64 0, .int .i64 0, .int .i64 0] 74)).drew)
              have HbX := Lib.hid (((Below.refl wr.heap.size wr).alloc (Nat.le_refl _) (.cells #[.int .i64 x, .int .i64 x, .int .i64 0] 74)).drew)
              go_cut [12] (fun s12 wx => ∃ b2 : Nat, s12 = .pointer (some ⟨b2, 0, none⟩) ∧ Hid (wr.heap.size ≤ b2) ∧ Hid (b1 ≠ b2) ∧ Hid (EdgBox b2 wx) ∧ Hid (Below wr.heap.size wr wx))
              case first =>
                go_region_held3 (fun u => u.cell? ⟨w.heap.size, 1, none⟩ = some (.slice (some ad) (n + 1) c') ∧ u.cell? (ad.add s) = some (.slice (some a3) L3 c3) ∧ u.cell? (a3.add i) = some (.int .i64 x)) (first | exact K.out _ HbD.out | exact K.out _ HbA.out | exact K.out _ HbX.out) (fail)
                all_goals
                  go_wp2_with fail
                  go_meet
                  exact ⟨wr.heap.size, rfl, Lib.hid (Nat.le_refl _), Lib.hid (by obtain ⟨_, _, _, h⟩ := HBX.out; exact Nat.ne_of_lt h.lt), Lib.hid ⟨x, x, 0, (Blk.new _ _ _).drew⟩, HbX⟩
              case rest =>
                obtain ⟨b2, rfl, Hge2, Hne, HX2, HBz2⟩ := hcut
                have HX1 := Lib.hid (show EdgBox b1 wc by obtain ⟨x1, y1, z1, h⟩ := HBX.out; exact ⟨x1, y1, z1, h.stay HBz2.out⟩)
                obtain ⟨d1, d2, d3⟩ := K.out wc HBz2.out
                have H710 := Lib.hid (show s < n → n7 = C1 ∧ ∃ es : List (Int × Int × Int), Reads wc wc.heap.size 3 A7 C1 (es.flatMap spv) from fun h => by
                  obtain ⟨h1, es, h2⟩ := H79.out h
                  have hby := HBy.out
                  rw [Hb1.out] at hby
                  have h3 := (h2.below hby).more hby.size
                  exact ⟨h1, es, (h3.below HBz2.out).more HBz2.out.size⟩)
                clear hcx c3' c1 HbD HbA HbX hN0 K
                go_upto_if 76 with fail
                obtain ⟨W2, rfl⟩ : ∃ W2, W2 = wc := ⟨_, rfl⟩
                go_cut [] (fun wx => Hid (EdgBox b2 wx) ∧ Hid (EdgBox b1 wx) ∧ Hid (Below wr.heap.size wr wx))
                case first =>
                  cases D
                  · have hsn2 : s < n := by have h := HD.out; have := of_decide_eq_false h.symm; omega
                    obtain ⟨h1, es, hr7⟩ := H710.out hsn2
                    subst h1
                    obtain ⟨y, rfl, hy⟩ := Hx.out hsn2
                    obtain ⟨ad7, lo, hi, v, rfl, had7, _, e0, e1, e2⟩ := hr7.span hy
                    obtain ⟨x1, y1, z1, hblk⟩ := HX2.out
                    have z0 := hblk.cell 0
                    have z1' := hblk.cell 1
                    have z2 := hblk.cell 2
                    have f0 := hblk.frozen 0
                    have f1 := hblk.frozen 1
                    have f2 := hblk.frozen 2
                    have hyi : (y : Int) < (n7 : Int) := by omega
                    have HK2 := Lib.hid hblk
                    clear hblk hr7 had7 hsn2 hy
                    go_wp2_with fail
                    go_meet
                    exact ⟨Lib.hid (box_set2 (box_set1 (box_set0 HX2.out _) _) _), Lib.hid (box_far (box_far (box_far HX1.out Hne.out _ _) Hne.out _ _) Hne.out _ _), Lib.hid (((HBz2.out.setCell (p := ⟨b2, 0, none⟩) Hge2.out _).setCell (p := ⟨b2, 1, none⟩) Hge2.out _).setCell (p := ⟨b2, 2, none⟩) Hge2.out _)⟩
                  · go_wp2_with fail
                    go_meet
                    exact ⟨HX2, HX1, HBz2⟩
                case rest =>
                  obtain ⟨HX3, HX4, HBz3⟩ := hcut
                  have HBy3 := Lib.hid (HBy.out.trans (HBz3.out.mono (by rw [Hb1.out]; exact HBy.out.size)))
                  have Hge1 := Lib.hid (Nat.le_refl b1)
                  obtain ⟨W3, rfl⟩ : ∃ W3, W3 = wc := ⟨_, rfl⟩
                  obtain ⟨x1, y1, z1, hk1⟩ := HX4.out
                  obtain ⟨x2, y2, z2, hk2⟩ := HX3.out
                  have i0 := hk1.cell 0
                  have i1 := hk1.cell 1
                  have i2 := hk1.cell 2
                  have f0 := hk1.frozen 0
                  have f1 := hk1.frozen 1
                  have f2 := hk1.frozen 2
                  have j0 := hk2.cell 0
                  have j1 := hk2.cell 1
                  have j2 := hk2.cell 2
                  clear hk1 hk2
                  by_cases hia : i = at_
                  · have hse : ((i : Int) == (at_ : Int)) = true := by simp; omega
                    go_wp2_with fail
                    go_roundw
                    all_goals (first | exact ⟨i + 1, by omega, by omega, by simp; omega, Lib.hid (box_set2 (box_set1 (box_set0 HX4.out _) _) _), Lib.hid (((HBy3.out.setCell (p := ⟨b1, 0, none⟩) Hge1.out _).setCell (p := ⟨b1, 1, none⟩) Hge1.out _).setCell (p := ⟨b1, 2, none⟩) Hge1.out _)⟩ | (simp [intOf]; omega))
                  · have hse : ((i : Int) == (at_ : Int)) = false := by simp; omega
                    have HB10x := Lib.hid (show True from trivial)
                    go_upto_if 96 with fail
                    go_cut [] (fun wx => Hid (EdgBox b2 wx) ∧ Hid (EdgBox b1 wx) ∧ Hid (Below b1 W9 wx))
                    case first =>
                      by_cases hyx : y1 = x2
                      · have hse2 : (y1 == x2) = true := by simp; omega
                        go_wp2_with fail
                        go_meet
                        exact ⟨HX3, HX4, HBy3⟩
                      · have hse2 : (y1 == x2) = false := by simp; omega
                        go_wp2_with fail
                        go_meet
                        exact ⟨Lib.hid (box_far HX3.out Hne.out.symm _ _), Lib.hid (box_set2 HX4.out _), Lib.hid (HBy3.out.setCell (p := ⟨b1, 2, none⟩) Hge1.out _)⟩
                    case rest =>
                      obtain ⟨HX5, HX6, HB6⟩ := hcut
                      clear i0 i1 i2 f0 f1 f2 j0 j1 j2
                      obtain ⟨x3, y3, z3, hk1⟩ := HX6.out
                      obtain ⟨x4, y4, z4, hk2⟩ := HX5.out
                      have i0 := hk1.cell 0
                      have i1 := hk1.cell 1
                      have i2 := hk1.cell 2
                      have f0 := hk1.frozen 0
                      have f1 := hk1.frozen 1
                      have f2 := hk1.frozen 2
                      have j0 := hk2.cell 0
                      have j1 := hk2.cell 1
                      have j2 := hk2.cell 2
                      have hne := Hne.out
                      clear hk1 hk2
                      go_wp2_with fail
                      go_roundw
                      all_goals (first | exact ⟨i + 1, by omega, by omega, by simp, Lib.hid (box_set1 (box_set2 HX6.out _) _), Lib.hid ((HB6.out.setCell (p := ⟨b1, 2, none⟩) Hge1.out _).setCell (p := ⟨b1, 1, none⟩) Hge1.out _)⟩ | (simp [intOf]; omega))
            · have hie : i = at_ + N := by omega
              have hit : ¬ (i : Int) < (at_ : Int) + (N : Int) := by omega
              obtain ⟨es, hown⟩ := HE.out
              have HO := Lib.hid (own_belowS hown hby)
              obtain ⟨A8, c8, rfl, hc8, _⟩ := val_of_ownS hown
              obtain ⟨x1, y1, z1, hk1⟩ := HBX.out
              have i0 := hk1.cell 0
              have i1 := hk1.cell 1
              have i2 := hk1.cell 2
              have hbw : Below B wc wr := HBx.out.trans (hby.mono HBx.out.size |> fun h => by rw [HBz.out] at *; exact h)
              have HBw := Lib.hid hbw
              have hbz : B ≤ wr.heap.size := hbw.size |> fun h => by rw [HBz.out]; exact h
              obtain ⟨i00, hi, hz0, hz1, hz2⟩ := info_parts Try.infoT74
              have hC : k < 12001 := by
                have : k * 1 ≤ k * N := Nat.mul_le_mul_left _ hN0
                have := Hat.out
                omega
              have hl3 := hL3b
              clear hk1 hown hby hbw c1 c3'
              go_wp2_with (at_builtin; refine wpList_app3 rfl (.tmp 110) (.tmp 112) 75 rfl Try.underlying75 hi hz0 hz1 hz2 rfl (by omega) (by omega) wr _ _ _ rfl HO.out #[.int .i64 x1, .int .i64 y1, .int .i64 z1] rfl rfl (by intro u hu; simp at hu; rcases hu with rfl | rfl | rfl <;> rfl) (by omega) hbz ?_; intro v6 w6 ho6 hb6 hg6 _)
              have HE6 := Lib.hid (show EdgRow B (k + 1) v6 w6 from ⟨es ++ [(x1, y1, z1)], by rw [List.flatMap_append]; simpa [spv] using ho6⟩)
              all_goals (first | exact ⟨⟨k + 1, at_ + N, by omega, by go_num, Lib.hid (by rw [Hat.out, Nat.succ_mul]), HE6, Lib.hid (HBw.out.trans hb6)⟩, by simp [intOf]; omega⟩ | trace_state)
        · have hkC : k = C := by omega
          have hae : at_ = L3 := by rw [Hat.out, HCN.out, hkC]
          have hai : ¬ (at_ : Int) < (L3 : Int) := by omega
          have HEC := Lib.hid (show EdgRow B C u8 wr by rw [← hkC]; exact HE.out)
          obtain ⟨es, hown⟩ := HEC.out
          obtain ⟨A8, c8, rfl, hc8, hr8⟩ := val_of_ownS hown
          have HF8 := Lib.hid (show EdgE wr (cntS ws ss s) (.returned (.slice A8 C c8)) from by
            rw [← HC.out]
            exact ⟨A8, c8, es, rfl, hr8⟩)
          clear hown hr8 hc8 hkC hae
          go_wp2_with fail
          go_ret
          exact ⟨HF8.out, HL9.out⟩
end Go.Proofs.Ytnlmikefihaldaa
