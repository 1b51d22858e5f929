/- The reference's runs. -/
import Derived.Test.YtnlmikefihaldaaOe
namespace Go.Proofs.Ytnlmikefihaldaa
open Go.RowKit

/-- one row of runs, to be read -/
def RowA (w : World) (v : Value) (r : List (Int × Int)) : Prop := ∃ A c, v = .slice A r.length c ∧ Reads w w.heap.size 2 A r.length (r.flatMap rpv)
/-- the runs of the blocks of a stage, in memory -/
structure RunRows (ws : List Int) (ss : List (List Int)) (s : Nat) (A : Option Addr) (C : Nat) (vs : List Value) (rs : List (List (Int × Int))) (w : World) : Prop where
  len : rs.length = C
  reads : Reads w w.heap.size 1 A C vs
  rows : ∀ (i : Nat) r, rs[i]? = some r → ∃ v, vs[i]? = some v ∧ RowA w v r
  says : ∀ (i : Nat) r, rs[i]? = some r → reachP ws ss s i → RunsOf r (sF ws ss s i) (sN ws s)
theorem RowA.stay {w w' : World} {v : Value} {r : List (Int × Int)} (h : RowA w v r) (hb : Below w.heap.size w w') : RowA w' v r := by
  obtain ⟨A, c, e, h⟩ := h
  exact ⟨A, c, e, (h.below hb).more hb.size⟩
theorem RunRows.stay {ws : List Int} {ss : List (List Int)} {s C : Nat} {A : Option Addr} {vs : List Value} {rs : List (List (Int × Int))} {w w' : World} (h : RunRows ws ss s A C vs rs w) (hb : Below w.heap.size w w') : RunRows ws ss s A C vs rs w' :=
  ⟨h.len, (h.reads.below hb).more hb.size, fun i r hr => by obtain ⟨v, h1, h2⟩ := h.rows i r hr; exact ⟨v, h1, h2.stay hb⟩, h.says⟩
def RunE (ws : List Int) (ss : List (List Int)) (s : Nat) (e : Ending) (w' : World) : Prop := ∃ A c vs rs, e = .returned (.slice A (cntS ws ss s) c) ∧ RunRows ws ss s A (cntS ws ss s) vs rs w'
/-- the rows while they are made -/
structure OutR (ws : List Int) (ss : List (List Int)) (s B k : Nat) (v : Value) (vs : List Value) (rs : List (List (Int × Int))) (w : World) : Prop where
  len : rs.length = k
  own : w.ownsRow B 77 1 v k vs
  rows : ∀ (i : Nat) r, rs[i]? = some r → ∃ u, vs[i]? = some u ∧ RowA w u r ∧ ∀ g, u.ownBlock = some g → g < w.heap.size ∧ v.ownBlock ≠ some g
  says : ∀ (i : Nat) r, rs[i]? = some r → reachP ws ss s i → RunsOf r (sF ws ss s i) (sN ws s)
section
variable {ws : List Int} {ss : List (List Int)} {s B k : Nat} {v : Value} {vs : List Value} {rs : List (List (Int × Int))} {w w' : World}
theorem OutR.stay (h : OutR ws ss s B k v vs rs w) (hb : Below w.heap.size w w') : OutR ws ss s B k v vs rs w' :=
  ⟨h.len, own_belowS h.own hb, fun i r hr => by
    obtain ⟨u, h1, h2, h3⟩ := h.rows i r hr
    exact ⟨u, h1, h2.stay hb, fun g e => ⟨Nat.lt_of_lt_of_le (h3 g e).1 hb.size, (h3 g e).2⟩⟩, h.says⟩
theorem rowA_grown {u : Value} {r : List (Int × Int)} {row : Option Nat} (h : RowA w u r) (hg : w.grownBy w' row) (hu : ∀ g, u.ownBlock = some g → row ≠ some g) : RowA w' u r := by
  obtain ⟨A, c, rfl, hr⟩ := h
  refine ⟨A, c, rfl, hr.1, fun hn => ?_⟩
  obtain ⟨ad, rfl, hb, hc⟩ := hr.2 hn
  exact ⟨ad, rfl, Nat.lt_of_lt_of_le hb hg.size, fun t x hx => (World.cell?_of_block (by
    unfold Addr.add
    split <;> exact hg.block _ hb (fun e => hu ad.block rfl e.symm))).trans (hc t x hx)⟩
/-- a row more -/
theorem out_snoc {b9 : Nat} {v' u : Value} {r : List (Int × Int)} (h : OutR ws ss s B k v vs rs w) (hr : RunR b9 u r w) (h9 : ∀ g, v.ownBlock = some g → g < b9) (hs : reachP ws ss s k → RunsOf r (sF ws ss s k) (sN ws s))
    (hg : w.grownBy w' v.ownBlock) (ho : w'.ownsRow B 77 1 v' (k + 1) (vs ++ [u])) (hat : v'.ownBlock = v.ownBlock ∨ ∀ g, v'.ownBlock = some g → w.heap.size ≤ g) : OutR ws ss s B (k + 1) v' (vs ++ [u]) (rs ++ [r]) w' := by
  have hvl : vs.length = k := by have := h.own.1; simpa using this
  have hur : RowA w u r := by obtain ⟨A, c, e, _, h2⟩ := val_of_ownS hr; exact ⟨A, c, e, h2⟩
  have hub : ∀ g, u.ownBlock = some g → g < w.heap.size ∧ v.ownBlock ≠ some g := fun g e => by
    obtain ⟨h1, h2⟩ := World.ownsRow.lt hr g e
    exact ⟨h2, fun e2 => by have := h9 g e2; omega⟩
  have hv' : ∀ g, g < w.heap.size → v.ownBlock ≠ some g → v'.ownBlock ≠ some g := fun g h1 h2 e => by
    rcases hat with q | q
    · rw [q] at e; exact h2 e
    · have := q g e; omega
  refine ⟨by simp [h.len], ho, fun i x hx => ?_, fun i x hx hre => ?_⟩
  · rcases getElem?_snoc_cases hx with ⟨h1, h2⟩ | ⟨h1, h2⟩
    · obtain ⟨y, q1, q2, q3⟩ := h.rows i x h2
      exact ⟨y, by rw [List.getElem?_append_left (by rw [hvl, ← h.len]; exact h1)]; exact q1, rowA_grown q2 hg (fun g e => (q3 g e).2), fun g e => ⟨Nat.lt_of_lt_of_le (q3 g e).1 hg.size, hv' g (q3 g e).1 (q3 g e).2⟩⟩
    · subst h2
      exact ⟨u, by rw [h1, h.len, ← hvl]; simp, rowA_grown hur hg (fun g e => (hub g e).2), fun g e => ⟨Nat.lt_of_lt_of_le (hub g e).1 hg.size, hv' g (hub g e).1 (hub g e).2⟩⟩
  · rcases getElem?_snoc_cases hx with ⟨h1, h2⟩ | ⟨h1, h2⟩
    · exact h.says i x h2 hre
    · subst h2
      rw [h1, h.len] at hre ⊢
      exact hs hre
end
theorem Try.infoT77 : (Try.prog.info? 77).map (fun i => (i.zero, i.size, i.bytes)) = some (some (.slice none 0 0), 1, 24) := by kernel_rfl
set_option maxRecDepth 100000 in
set_option maxHeartbeats 8000000 in
theorem runs_step (A A' : Option Addr) (n c n' c' : Nat) (ws : List Int) (ss : List (List Int)) (hf : formedT ws ss) (hl : ∀ i, (stg ss i).length ≤ 12000) (s : Nat) (hs : s ≤ ws.length)
    (ih : s < ws.length → ∀ w, Tab w w.heap.size A n c A' n' c' ws ss → Calls Try.prog 50 #[.agg #[.slice A n c, .slice A' n' c'], .int .i64 ((s : Int) + 1)] w fun e w' => RunE ws ss (s + 1) e w' ∧ Below w.heap.size w w')
    (w : World) (h : Tab w w.heap.size A n c A' n' c' ws ss) : Calls Try.prog 50 #[.agg #[.slice A n c, .slice A' n' c'], .int .i64 (s : Int)] w fun e w' => RunE ws ss s e w' ∧ Below w.heap.size w w' := by
  obtain ⟨hl1, hl2⟩ := h.len
  have hw := hf.1
  have hn3 : 1 ≤ n ∧ n ≤ 3 := by have := hw.1; have := hw.2.1; omega
  obtain ⟨hn1, hn3⟩ := hn3
  have hnn : n' = n + 1 := by have := hf.2.1; omega
  subst hnn
  have hsn : s ≤ n := by omega
  have hL : Below w.heap.size w (w.alloc (.cells #[.slice A n c, .slice A' (n + 1) c'] 28)) := (Below.refl _ w).alloc (Nat.le_refl _) _
  have HB := Lib.hid (Blk.new w 28 #[.slice A n c, .slice A' (n + 1) c'])
  have HT := Lib.hid ((h.below hL).more hL.size)
  have HL := Lib.hid hL
  have Hl1 := Lib.hid hl1
  have Hf := Lib.hid hf
  have Hln := Lib.hid hl
  have Hih := Lib.hid ih
  clear hl1 hl2 hL h hf hl ih hw hs
  have g0 := HB.out.cell 0
  have g1 := HB.out.cell 1
  obtain ⟨ad, A2, c2, hA, had, hc0, _, _⟩ := HT.out.at_ (k := 0) (by omega)
  rw [add_zero_] at hc0
  obtain ⟨L0, hL0⟩ : ∃ L0, L0 = (stg ss 0).length := ⟨_, rfl⟩
  rw [← hL0] at hc0
  have HL0 := Lib.hid hL0
  have hL0b : L0 ≤ 12000 := by rw [hL0]; exact Hln.out 0
  subst hA
  clear hL0
  go_enter Try.func50, Try.ntmps50
  go_upto_if 20 with fail
  obtain ⟨W, hW⟩ : ∃ W, W = w.alloc (.cells #[.slice A n c, .slice (some ad) (n + 1) c'] 28) := ⟨_, rfl⟩
  rw [← hW] at HB HT HL g0 g1 had hc0 ⊢
  clear hW
  go_cut [5] (fun s5 wx => s5 = .int .i64 ((nS ws ss s : Nat) : Int) ∧ wx = W)
  case first =>
    rcases Nat.eq_zero_or_pos s with hz | hz
    · have H := Lib.hid (show nS ws ss s = L0 by rw [hz]; exact HL0.out.symm)
      have hd : ¬ 0 < s := by omega
      clear hz
      go_wp2
      go_meet
      exact ⟨by rw [H.out], rfl⟩
    · obtain ⟨k, hk⟩ : ∃ k, k = s - 1 := ⟨s - 1, rfl⟩
      have hsk : s = k + 1 := by omega
      have hik : (s : Int) - 1 = (k : Int) := by omega
      obtain ⟨ad4, X, hA4, had4, hc4, hX, hX1, hX2⟩ := HT.out.width Hf.out.1 (show k < n by omega)
      subst hA4
      have H := Lib.hid (show ((nS ws ss s : Nat) : Int) = ((2 ^ X : Nat) : Int) by rw [hX, hsk]; rfl)
      have hpw := pow_wrap16 X (by omega)
      have hc5 : W.cell? (ad4.add (s - 1)) = some (.int .i64 (X : Int)) := by rw [show s - 1 = k by omega]; exact hc4
      have hi0 : (0 : Int) ≤ (s : Int) - 1 := by omega
      have hi1 : (s : Int) - 1 < (n : Int) := by omega
      have hd : decide (0 < s) = true := decide_eq_true (by omega)
      clear hz hX hk hsk hik hc4
      obtain ⟨M, hM⟩ : ∃ M, M = 2 ^ X := ⟨_, rfl⟩
      rw [← hM] at H hpw
      clear hM
      go_wp2
      go_meet
      exact ⟨by rw [H.out], rfl⟩
  case rest =>
    obtain ⟨rfl, rfl⟩ := hcut
    obtain ⟨N, hN⟩ : ∃ N, N = nS ws ss s := ⟨_, rfl⟩
    obtain ⟨C, hC⟩ : ∃ C, C = cntS ws ss s := ⟨_, rfl⟩
    rw [← hN]
    have hN0 : 0 < N := by rw [hN]; exact nS_pos Hf.out s
    have hlen : (stg ss s).length = C * N := by rw [hN, hC]; exact lenS Hf.out (by rw [Hl1.out]; exact hsn)
    have HN := Lib.hid hN
    have HC := Lib.hid hC
    have Hlen := Lib.hid hlen
    clear hN hC hlen
    obtain ⟨C1, hC1⟩ : ∃ C1, C1 = cntS ws ss (s + 1) := ⟨_, rfl⟩
    have HC1 := Lib.hid hC1
    clear hC1
    go_upto_region 4 with fail
    go_cut [6] (fun s6 wx => s6 = .bool (decide (s = n)) ∧ wx = wc)
    case first =>
      have hse : ((s : Int) == (n : Int)) = decide (s = n) := by by_cases h : s = n <;> simp [h]; omega
      go_wp2
      go_meet
      exact ⟨rfl, rfl⟩
    case rest =>
    obtain ⟨rfl, rfl⟩ := hcut
    obtain ⟨D, hD⟩ : ∃ D, D = decide (s = n) := ⟨_, rfl⟩
    rw [← hD]
    have HD := Lib.hid hD
    clear hD
    go_upto_if 35 with fail
    go_cut [7] (fun s7 wx => ∃ (A7 : Option Addr) (n7 c7 : Nat), s7 = .slice A7 n7 c7 ∧ Hid (s < n → n7 = C1 ∧ ∃ vs rs, RunRows ws ss (s + 1) A7 C1 vs rs wx) ∧ Hid (Below wc.heap.size wc wx))
    case first =>
      by_cases hz : s = n
      · obtain rfl : D = true := by rw [HD.out]; exact decide_eq_true hz
        have Hd := Lib.hid hz
        clear hz
        go_wp2_with fail
        go_meet
        exact ⟨_, _, _, rfl, Lib.hid fun h => by have := Hd.out; omega, Lib.hid (Below.refl _ _)⟩
      · obtain rfl : D = false := by rw [HD.out]; exact decide_eq_false hz
        have HI := Lib.hid (Hih.out (by rw [Hl1.out]; omega) wc HT.out)
        clear hz
        go_wp2_with fail
        refine HI.out.mono ?_
        rintro e w5 ⟨⟨A7, c7, vs, rs, rfl, hr7⟩, hb7⟩
        rw [← HC1.out] at hr7 ⊢
        have HE := Lib.hid (show s < n → C1 = C1 ∧ ∃ vs rs, RunRows ws ss (s + 1) A7 C1 vs rs w5 from fun _ => ⟨rfl, vs, rs, hr7⟩)
        have HB7 := Lib.hid hb7
        clear hr7 hb7
        go_wp2_with fail
        go_meet
        exact ⟨A7, C1, c7, rfl, Lib.hid fun h => ⟨rfl, (HE.out h).2⟩, HB7⟩
    case rest =>
      obtain ⟨A7, n7, c7, rfl, H7, hB7⟩ := hcut
      have HT7 := Lib.hid ((HT.out.below hB7.out).more hB7.out.size)
      have HB' := Lib.hid (HB.out.stay hB7.out)
      have HL7 := Lib.hid (HL.out.trans (hB7.out.mono HL.out.size))
      obtain ⟨ad3, A3, c3, hA, had3, hc3, _, hr3⟩ := HT7.out.at_ (k := s) (by omega)
      injection hA with hA
      subst hA
      obtain ⟨L3, hL3⟩ : ∃ L3, L3 = (stg ss s).length := ⟨_, rfl⟩
      rw [← hL3] at hc3 hr3
      have HR3 := Lib.hid hr3
      have HL3 := Lib.hid hL3
      have hCN : L3 = C * N := by rw [hL3]; exact Hlen.out
      have hL3b : L3 ≤ 12000 := by rw [hL3]; exact Hln.out s
      have HCN := Lib.hid hCN
      clear g0 g1 hc0 had hr3 hL3 hCN
      have g1 := HB'.out.cell 1
      have hsi : (s : Int) < (n : Int) + 1 := by omega
      have hs0 : (0 : Int) ≤ (s : Int) := by omega
      obtain ⟨B, hB⟩ : ∃ B, B = wc.heap.size := ⟨_, rfl⟩
      have HBz := Lib.hid hB
      clear hB
      have g0 := HB'.out.cell 0
      have HIr := Lib.hid (reached_any A (some ad) n c (n + 1) c' ws ss Hf.out Hln.out s (by rw [Hl1.out]; exact hsn) wc HT7.out)
      go_wp2_with fail
      refine HIr.out.mono ?_
      rintro e w5 ⟨⟨A6, c6, bs, rfl, hr6, hge6, hbs⟩, hb6⟩
      rw [← HC.out] at hr6 hbs ⊢
      clear g0 g1
      have HT5 := Lib.hid ((HT7.out.below hb6).more hb6.size)
      have HB5 := Lib.hid (HB'.out.stay hb6)
      have HL5 := Lib.hid (HL7.out.trans (hb6.mono HL7.out.size))
      have HR5 := Lib.hid ((HR3.out.below hb6).more hb6.size)
      have H75 := Lib.hid (show s < n → n7 = C1 ∧ ∃ vs rs, RunRows ws ss (s + 1) A7 C1 vs rs w5 from fun h => by
        obtain ⟨h1, vs, rs, h2⟩ := H7.out h
        exact ⟨h1, vs, rs, h2.stay hb6⟩)
      have hc5 : w5.cell? (ad.add s) = some (.slice A3 L3 c3) := (hb6.cell (p := ad.add s) (by unfold Addr.add; split <;> exact had3)).trans hc3
      have had5 : ad.block < w5.heap.size := Nat.lt_of_lt_of_le had3 hb6.size
      have HR6 := Lib.hid hr6
      have Hbs := Lib.hid hbs
      have HC5 := Lib.hid hc5
      have HA5 := Lib.hid had5
      obtain ⟨M, hM1, hM2, hNM⟩ : ∃ M, (s = n → M = 1) ∧ (s < n → M = sN ws (s + 1)) ∧ sN ws s = N * M := by
        by_cases hz : s = n
        · exact ⟨1, fun _ => rfl, fun h => by omega, by rw [HN.out, Nat.mul_one]; exact sN_last ss Hf.out.1 (by rw [Hl1.out]; exact hz)⟩
        · exact ⟨sN ws (s + 1), fun h => absurd h hz, fun _ => rfl, by rw [HN.out]; exact sN_more Hf.out (by rw [Hl1.out]; omega)⟩
      have hsNb := (sN_le Hf.out.1 s).2
      rw [hNM] at hsNb
      have HNM := Lib.hid hNM
      have HM1 := Lib.hid hM1
      have HM2 := Lib.hid hM2
      have Hsb := Lib.hid hsNb
      clear HB' HT7 HL7 HR3 H7 hc3 had3 hr6 hge6 hbs hb6 HIr hB7 hc5 had5 hM1 hM2 hNM hsNb HL HT HB Hih
      obtain ⟨B, hB⟩ : ∃ B, B = w5.heap.size := ⟨_, rfl⟩
      have HBz := Lib.hid hB
      clear hB
      go_wp2_with fail
      go_loopw [8, 10] (fun s8 s10 wx => ∃ k at_ : Nat, ∃ vs rs, k ≤ C ∧ s10 = .int .i64 (at_ : Int) ∧ Hid (at_ = k * N) ∧ Hid (OutR ws ss s B k s8 vs rs wx) ∧ Hid (Below B w5 wx)) (fun _ s10 _ => L3 - (intOf s10).toNat)
      case atStart => exact ⟨0, 0, [], [], by omega, rfl, Lib.hid (by simp), Lib.hid ⟨rfl, World.ownsRow_nil _ _ _ _, fun i r h => by simp at h, fun i r h => by simp at h⟩, Lib.hid (by rw [HBz.out]; exact Below.refl _ _)⟩
      case round =>
        obtain ⟨k, at_, vs, rs, hk, rfl, Hat, HO, HBx⟩ := hrel
        have hbx := HBx.out
        rw [HBz.out] at hbx
        have HT9 := Lib.hid ((HT5.out.below hbx).more hbx.size)
        have HB9 := Lib.hid (HB5.out.stay hbx)
        have HR9 := Lib.hid ((HR5.out.below hbx).more hbx.size)
        have HU9 := Lib.hid ((HR6.out.below hbx).more hbx.size)
        have c1 := HB9.out.cell 1
        have c3' : wr.cell? (ad.add s) = some (.slice A3 L3 c3) := (hbx.cell (p := ad.add s) (by unfold Addr.add; split <;> exact HA5.out)).trans HC5.out
        have HADR := Lib.hid (Nat.lt_of_lt_of_le HA5.out hbx.size)
        have HC3 := Lib.hid c3'
        have HL9 := Lib.hid (HL5.out.trans (hbx.mono HL5.out.size))
        have H79 := Lib.hid (show s < n → n7 = C1 ∧ ∃ vs rs, RunRows ws ss (s + 1) A7 C1 vs rs wr from fun h => by
          obtain ⟨h1, vs, rs, h2⟩ := H75.out h
          exact ⟨h1, vs, rs, h2.stay hbx⟩)
        clear hbx
        by_cases hlt : k < C
        · have hend : at_ + N ≤ L3 := by rw [Hat.out, HCN.out, ← Nat.succ_mul]; exact Nat.mul_le_mul_right _ hlt
          have hai : (at_ : Int) < (L3 : Int) := by omega
          go_wp2_with fail
          obtain ⟨W9, rfl⟩ : ∃ W9, W9 = wr := ⟨_, rfl⟩
          obtain ⟨b9, hb9⟩ : ∃ b9, b9 = W9.heap.size := ⟨_, rfl⟩
          have Hb9 := Lib.hid hb9
          obtain ⟨a6, u6, rfl, ha6, hue, huc⟩ := HU9.out.at_ hlt
          rw [List.getElem?_map] at hue
          obtain ⟨b, hb, rfl⟩ : ∃ b, bs[k]? = some b ∧ u6 = blv b := by
            cases hbq : bs[k]? with
            | none => rw [hbq] at hue; simp at hue
            | some b => rw [hbq] at hue; simp at hue; exact ⟨b, rfl, hue.symm⟩
          have Hbit := Lib.hid (show b = true ↔ reachP ws ss s k by
            have := Hbs.out k hlt
            rw [show bs.getD k false = b by simp [List.getD, hb]] at this
            exact this)
          have HUC := Lib.hid huc
          have HA6 := Lib.hid ha6
          clear hb9 c1 c3' hue huc ha6 hb
          go_loopw [11, 12] (fun s11 s12 wy => ∃ p i : Nat, ∃ r, p ≤ N ∧ s12 = .int .i64 (i : Int) ∧ Hid (i = at_ + p) ∧ Hid (RunR b9 s11 r wy) ∧ Hid (Below b9 W9 wy) ∧ Hid (b = false → r = []) ∧ Hid (b = true → RunsOf r (sF ws ss s k) (p * M))) (fun _ s12 _ => at_ + N - (intOf s12).toNat)
          case atStart => exact ⟨0, at_, [], by omega, rfl, Lib.hid rfl, Lib.hid (World.ownsRow_nil _ _ _ _), Lib.hid (by rw [Hb9.out]; exact Below.refl _ _), Lib.hid (fun _ => rfl), Lib.hid (fun _ => by rw [Nat.zero_mul]; exact runsOf_nil _)⟩
          case round =>
            obtain ⟨p, i, r, hp, rfl, Hi, HRr, HBy, Hr0, Hr1⟩ := hrel
            have hby := HBy.out
            rw [Hb9.out] at hby
            have HB10 := Lib.hid (HB9.out.stay hby)
            have c1 := HB10.out.cell 1
            have c3' : wr.cell? (ad.add s) = some (.slice A3 L3 c3) := (hby.cell (p := ad.add s) (by unfold Addr.add; split <;> exact HADR.out)).trans HC3.out
            have d6 : wr.cell? (a6.add k) = some (.bool b) := (hby.cell (p := a6.add k) (by unfold Addr.add; split <;> exact HA6.out)).trans HUC.out
            have HR10 := Lib.hid ((HR9.out.below hby).more hby.size)
            have hCb : C ≤ 12000 := by
              have : C * 1 ≤ C * N := Nat.mul_le_mul_left _ hN0
              have := HCN.out
              omega
            have hdv : Int.tdiv (at_ : Int) (N : Int) = (k : Int) := by rw [← Int.ofNat_tdiv, Hat.out, Nat.mul_div_cancel _ hN0]
            have hNi : (N : Int) ≠ 0 := by omega
            have hNn : N ≠ 0 := by omega
            have hki : (k : Int) < (C : Int) := by omega
            have hwk : IntKind.i64.wrap (k : Int) = (k : Int) := IntWalk.i64_in _ (by omega)
            have hsz := hby.size
            obtain ⟨A11, c11, rfl, hc11, _⟩ := val_of_ownS HRr.out
            by_cases hgo : b = true ∧ i < at_ + N
            · obtain ⟨rfl, hit0⟩ := hgo
              have hit : (i : Int) < (at_ : Int) + (N : Int) := by omega
              have hpN : p < N := by have := Hi.out; omega
              have hiL : i < L3 := by omega
              obtain ⟨a3, xv, rfl, ha3, hxe, hcx⟩ := HR10.out.at_ hiL
              rw [List.getElem?_map] at hxe
              have hxi : i < (stg ss s).length := by rw [← HL3.out]; exact hiL
              rw [List.getElem?_eq_getElem hxi] at hxe
              simp only [Option.map_some, Option.some.injEq] at hxe
              obtain ⟨x, hx⟩ : ∃ x, x = (stg ss s)[i] := ⟨_, rfl⟩
              rw [← hx] at hxe
              unfold iv at hxe
              subst hxe
              have hxm : x ∈ stg ss s := by rw [hx]; exact List.getElem_mem _
              have hxg : (stg ss s).getD i 0 = x := by rw [List.getD_eq_getElem?_getD, List.getElem?_eq_getElem hxi, ← hx]; rfl
              have hik : k * N + p = i := by rw [Hi.out, Hat.out]
              have hRo := Hr1.out rfl
              have hpM : p * M + M ≤ 1114112 := by
                have h1 : (p + 1) * M ≤ N * M := Nat.mul_le_mul_right _ hpN
                rw [Nat.succ_mul] at h1
                exact Nat.le_trans h1 Hsb.out
              have hrl : r.length ≤ 1114112 := by have := exL_len hRo.1.pos; have := hRo.len; omega
              have hii : (i : Int) < (L3 : Int) := by omega
              have hBb : b9 ≤ wr.heap.size := by rw [Hb9.out]; exact hsz
              have hkc : k < cntS ws ss s := by rw [← HC.out]; exact hlt
              clear hx
              cases D
              · have hsn2 : s < n := by have h := HD.out; have := of_decide_eq_false h.symm; omega
                obtain ⟨h1, vs7, rs7, h7⟩ := H79.out hsn2
                have h710 := h7.stay hby
                subst h1
                obtain ⟨hx0, hx1⟩ := entS Hf.out (by rw [Hl1.out]; exact hsn2) hxm
                rw [← HC1.out] at hx1
                obtain ⟨y, rfl⟩ : ∃ y : Nat, x = (y : Int) := ⟨x.toNat, by omega⟩
                have hyn : y < n7 := by omega
                have hre : reachP ws ss (s + 1) y := ⟨i, hxi, by rw [← HN.out, show i / N = k by rw [← hik, Nat.mul_comm, Nat.mul_add_div hN0, Nat.div_eq_of_lt hpN, Nat.add_zero]]; exact Hbit.out.1 rfl, hxg⟩
                have hry : y < rs7.length := by rw [h710.len]; exact hyn
                obtain ⟨v7, hv7, A7', c7', rfl, hr79⟩ := h7.rows y _ (List.getElem?_eq_getElem hry)
                have hr7 := (hr79.below hby).more hby.size
                have hs7 := h710.says y _ (List.getElem?_eq_getElem hry) hre
                obtain ⟨ad7, u7, rfl, had7, hu7, hcu7⟩ := h710.reads.at_ hyn
                rw [hv7] at hu7
                injection hu7 with hu7
                subst hu7
                obtain ⟨r7, hr7e⟩ : ∃ r7, r7 = rs7[y] := ⟨_, rfl⟩
                rw [← hr7e] at hr7 hs7 hcu7 hr79
                rw [← HM2.out hsn2] at hs7
                have hyi : (y : Int) < (n7 : Int) := by omega
                have hFo : ∀ o, o < M → sF ws ss s k (p * M + o) = sF ws ss (s + 1) y o := fun o ho => by
                  rw [HM2.out hsn2] at ho ⊢
                  rw [sF_more (by rw [Hl1.out]; exact hsn2) hkc ho, ← HN.out, hik, hxg]
                  rfl
                have Hnew := Lib.hid (runsOf_join hRo hs7 hFo)
                have CJ := Lib.hid (join_any b9 (.slice A11 r.length c11) r r7 A7' r7.length c7' wr HRr.out hr7 (fun ad h => by
                    subst h
                    intro e
                    have h1 := (World.ownsRow.lt HRr.out _ e).1
                    have hMp : 0 < M := by rw [HM2.out hsn2]; exact (sN_le Hf.out.1 _).1
                    have h2 := hs7.len
                    have hr0 : 0 < r7.length := by
                      rcases Nat.eq_zero_or_pos r7.length with q | q
                      · rw [List.length_eq_zero_iff.1 q] at h2; simp [exL] at h2; omega
                      · exact q
                    obtain ⟨ad', ha, hb', _⟩ := hr79.2 hr0
                    injection ha with ha
                    subst ha
                    rw [Hb9.out] at h1
                    omega) hBb hRo.1 hs7.1.pos (by rw [hRo.len, hs7.len]; omega))
                clear hr7 hr79 hs7 h7 h710 hv7 had7 hre hry hxg hxm hxi hRo hr7e ha3 hx0 hx1 hyn hFo
                go_wp2_with fail
                refine CJ.out.mono ?_
                rintro e w7 ⟨v7, rfl, hR7, hb7⟩
                have HR7 := Lib.hid hR7
                have HB7 := Lib.hid (HBy.out.trans hb7)
                clear hR7 hb7
                go_wp2_with fail
                exact ⟨⟨p + 1, i + 1, joinL r r7, by omega, by go_num, Lib.hid (by rw [Hi.out]; omega), HR7, HB7, Lib.hid (fun h => by cases h), Lib.hid (fun _ => by rw [Nat.succ_mul]; exact Hnew.out)⟩, by simp [intOf]; omega⟩
              · have hsn2 : s = n := by have h := HD.out; exact of_decide_eq_true h.symm
                have hM1 := HM1.out hsn2
                have hs7 : RunsOf [(1, x)] (fun _ => x) M := by rw [hM1]; exact runsOf_one rfl
                have hFo : ∀ o, o < M → sF ws ss s k (p * M + o) = (fun _ => x) o := fun o ho => by
                  rw [hM1] at ho ⊢
                  rw [show o = 0 by omega, Nat.mul_one, Nat.add_zero, sF_last Hf.out.1 (by rw [Hl1.out]; exact hsn2), ← HN.out, hik, hxg]
                have Hnew := Lib.hid (runsOf_join hRo hs7 hFo)
                have CJ := Lib.hid (join_any b9 (.slice A11 r.length c11) r [(1, x)] (some ⟨wr.heap.size, 0, none⟩) 1 1 (wr.alloc (.cells #[.int .i64 1, .int .i64 x] 81)) (World.ownsRow.alloc HRr.out _)
                  ⟨by simp [rpv], fun _ => ⟨_, rfl, by simp, fun t u ht => by
                    have hu := Blk.new wr 81 #[.int .i64 1, .int .i64 x]
                    rw [show (⟨wr.heap.size, 0, none⟩ : Addr).add t = ⟨wr.heap.size, t, none⟩ by unfold Addr.add; split <;> simp_all, hu.cell]
                    simpa [rpv] using ht⟩⟩
                  (fun ad h => by
                    injection h with h
                    subst h
                    intro e
                    have := (World.ownsRow.lt HRr.out _ e).2
                    simp at this) (by simp; omega) hRo.1 hs7.1.pos (by rw [hRo.len, hs7.len]; omega))
                clear hs7 hxg hxm hxi hRo ha3 hFo hM1 hsn2
                go_wp2_with fail
                refine CJ.out.mono ?_
                rintro e w7 ⟨v7, rfl, hR7, hb7⟩
                have HR7 := Lib.hid hR7
                have HB7 := Lib.hid ((HBy.out.alloc hBb _).trans hb7)
                clear hR7 hb7
                go_wp2_with fail
                exact ⟨⟨p + 1, i + 1, joinL r [(1, x)], by omega, by go_num, Lib.hid (by rw [Hi.out]; omega), HR7, HB7, Lib.hid (fun h => by cases h), Lib.hid (fun _ => by rw [Nat.succ_mul]; exact Hnew.out)⟩, by simp [intOf]; omega⟩
            · have Hsay := Lib.hid (show reachP ws ss s k → RunsOf r (sF ws ss s k) (sN ws s) from fun h => by
                have hbt := Hbit.out.2 h
                have : p = N := by have := Hi.out; have h2 : ¬ i < at_ + N := fun q => hgo ⟨hbt, q⟩; omega
                rw [HNM.out, ← this]
                exact Hr1.out hbt)
              obtain ⟨A8, c8, rfl, hc8, _⟩ := val_of_ownS HO.out.own
              have HO9 := Lib.hid (HO.out.stay hby)
              have HOo := Lib.hid HO9.out.own
              have h9 := Lib.hid (show ∀ g, (Value.slice A8 k c8).ownBlock = some g → g < b9 from fun g e => by rw [Hb9.out]; exact (World.ownsRow.lt HO.out.own g e).2)
              have hBw : B ≤ wr.heap.size := by have := HBx.out.size; rw [HBz.out] at *; omega
              have HBw := Lib.hid (show Below B w5 wr from HBx.out.trans (hby.mono (by rw [HBz.out]; exact HBx.out.size)))
              obtain ⟨i00, hi0, hz0, hz1, hz2⟩ := info_parts Try.infoT77
              have hkb : k ≤ 12000 := by omega
              have hcond : (b = false) ∨ (b = true ∧ ¬ (i : Int) < (at_ : Int) + (N : Int)) := by
                cases b
                · exact .inl rfl
                · exact .inr ⟨rfl, fun q => hgo ⟨rfl, by omega⟩⟩
              clear hgo hby hc11 hc8
              rcases hcond with rfl | ⟨rfl, hit⟩
              all_goals
                go_wp2_with (at_builtin; refine wpList_app3 rfl (.tmp 90) (.tmp 92) 78 rfl Try.underlying78 hi0 hz0 hz1 hz2 rfl (by omega) (by omega) wr _ _ _ rfl HOo.out #[.slice A11 r.length c11] rfl rfl (by intro u hu; simp at hu; subst hu; rfl) (by omega) hBw ?_; intro v6 w6 ho6 hb6 hg6 hat6)
                have HN6 := Lib.hid (out_snoc HO9.out HRr.out h9.out Hsay.out hg6 ho6 (hat6.elim (fun h => .inl h) (fun h => .inr (fun g e => by have e2 := h.symm.trans e; injection e2 with e2; omega))))
                exact ⟨⟨k + 1, at_ + N, _, _, by omega, by go_num, Lib.hid (by rw [Hat.out, Nat.succ_mul]), HN6, Lib.hid (HBw.out.trans hb6)⟩, by simp [intOf]; omega⟩
        · have hkC : k = C := by omega
          have hae : at_ = L3 := by rw [Hat.out, HCN.out, hkC]
          have hai : ¬ (at_ : Int) < (L3 : Int) := by omega
          obtain ⟨A8, c8, rfl, hc8, hr8⟩ := val_of_ownS HO.out.own
          have HF8 := Lib.hid (show RunE ws ss s (.returned (.slice A8 k c8)) wr from by
            refine ⟨A8, c8, vs, rs, by rw [← HC.out, hkC], ⟨by rw [HO.out.len, hkC, HC.out], by rw [← HC.out, ← hkC]; exact hr8, fun i r hr => ?_, HO.out.says⟩⟩
            obtain ⟨u, h1, h2, _⟩ := HO.out.rows i r hr
            exact ⟨u, h1, h2⟩)
          clear hr8 hc8 hkC hae
          go_wp2_with fail
          go_ret
          exact ⟨HF8.out, HL9.out⟩
theorem runs_any (A A' : Option Addr) (n c n' c' : Nat) (ws : List Int) (ss : List (List Int)) (hf : formedT ws ss) (hl : ∀ i, (stg ss i).length ≤ 12000) (d : Nat) :
    ∀ s, s + d = ws.length → ∀ w, Tab w w.heap.size A n c A' n' c' ws ss → Calls Try.prog 50 #[.agg #[.slice A n c, .slice A' n' c'], .int .i64 (s : Int)] w fun e w' => RunE ws ss s e w' ∧ Below w.heap.size w w' := by
  induction d with
  | zero => exact fun s hs w h => runs_step A A' n c n' c' ws ss hf hl s (by omega) (fun h => absurd h (by omega)) w h
  | succ d ih =>
    exact fun s hs w h => runs_step A A' n c n' c' ws ss hf hl s (by omega) (fun _ w h => by have := ih (s + 1) (by omega) w h; rw [Int.natCast_add] at this; exact this) w h
end Go.Proofs.Ytnlmikefihaldaa
