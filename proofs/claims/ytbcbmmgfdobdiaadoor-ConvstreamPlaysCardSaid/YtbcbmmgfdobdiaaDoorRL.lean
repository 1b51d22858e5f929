/- PA RL1 RL2 RL3 RL4 RL5 RL6 RL7 RL8 RL9 RLA RLB, merged. -/
import Derived.Test.YtbcbmmgfdobdiaaDoorP9
import Derived.Test.YtbcbmmgfdobdiaaDoorRK
import Derived.Test.YtbcbmmgfdobdiaaDoorR16E
import Derived.Test.YtbcbmmgfdobdiaaDoorKC
import Derived.Test.YtbcbmmgfdobdiaaDoorKT
import Derived.Test.YtbcbmmgfdobdiaaDoorKTB
/- What stays whatever follows, as the reference asks it: by seven endings; no program in sight. -/
namespace Go.Proofs.YtbcbmmgfdobdiaaDoor
open Go.RowKit

def ends7 : List (List UInt8) := [[0, 0, 0], [128, 128, 128], [144, 128, 128], [160, 128, 128], [220, 0, 0], [0, 220, 0], [220, 220, 220]]
theorem cont8_more : ∀ (m k v lo hi : Nat) (t : List UInt8) (x : UInt8) (u : List UInt8), (cont8 m k v lo hi t).2.2 = false → (cont8 m k v lo hi t).2.1 = k + t.length →
    (t = [] → lo ≤ x.toNat ∧ x.toNat ≤ hi) → (t ≠ [] → 128 ≤ x.toNat ∧ x.toNat ≤ 191) → k + t.length + 1 ≤ (cont8 m k v lo hi (t ++ x :: u)).2.1 := by
  intro m
  induction m with
  | zero => intro k v lo hi t x u h; simp [cont8] at h
  | succ m ih =>
    intro k v lo hi t x u h1 h2 h3 h4
    cases t with
    | nil =>
      rw [List.nil_append, cont8, if_pos (h3 rfl)]
      have := (cont8_bd m (k + 1) (64 * v + (x.toNat - 128)) 128 191 u).1
      simpa using this
    | cons y t =>
      rw [List.cons_append, cont8]
      rw [cont8] at h1 h2
      by_cases hy : lo ≤ y.toNat ∧ y.toNat ≤ hi
      · rw [if_pos hy] at h1 h2 ⊢
        have h5 := h4 (by simp)
        have := ih (k + 1) _ 128 191 t x u h1 (by rw [h2]; simp; omega) (fun _ => h5) (fun _ => h5)
        simp; omega
      · rw [if_neg hy] at h2; simp at h2
theorem stay7 (K : Cd) (s : List UInt8) (hs : s ≠ []) (h : goesK K s = false) : ∃ u ∈ ends7, (stepK K (s ++ u)).2.1 ≠ (stepK K s).2.1 := by
  obtain ⟨h1, h2⟩ := goesK_false h
  cases K with
  | one codes => simp [unfK] at h2
  | u16 big =>
    match s, hs, h2 with
    | [a], _, _ =>
      refine ⟨[0, 0, 0], by decide, ?_⟩
      show (two16 (unit2 big a 0) (unit2 big 0 0)).2.1 ≠ 1
      rcases two16_n (unit2 big a 0) (unit2 big 0 0) with e | e <;> omega
    | [a, b], _, h2 =>
      have ha := a.toNat_lt; have hb := b.toNat_lt
      cases big with
      | true =>
        refine ⟨[220, 0, 0], by decide, ?_⟩
        simp [unfK] at h2
        have e1 : unit2 true a b = 256 * a.toNat + b.toNat := rfl
        have e2 : unit2 true 220 0 = 56320 := by decide
        show (two16 (unit2 true a b) (unit2 true 220 0)).2.1 ≠ (one16 (unit2 true a b)).2.1
        rw [one16_n, two16, if_pos (sur_true.2 (by omega)), if_pos (by omega)]; show (4 : Nat) ≠ 2; decide
      | false =>
        refine ⟨[0, 220, 0], by decide, ?_⟩
        simp [unfK] at h2
        have e1 : unit2 false a b = 256 * b.toNat + a.toNat := rfl
        have e2 : unit2 false 0 220 = 56320 := by decide
        show (two16 (unit2 false a b) (unit2 false 0 220)).2.1 ≠ (one16 (unit2 false a b)).2.1
        rw [one16_n, two16, if_pos (sur_true.2 (by omega)), if_pos (by omega)]; show (4 : Nat) ≠ 2; decide
    | [a, b, c], _, h2 =>
      have ha := a.toNat_lt; have hb := b.toNat_lt; have hc := c.toNat_lt
      cases big with
      | true =>
        refine ⟨[0, 0, 0], by decide, ?_⟩
        simp [unfK] at h2
        have e1 : unit2 true a b = 256 * a.toNat + b.toNat := rfl
        have e2 : unit2 true c 0 = 256 * c.toNat + 0 := rfl
        show (two16 (unit2 true a b) (unit2 true c 0)).2.1 ≠ (one16 (unit2 true a b)).2.1
        rw [one16_n, two16, if_pos (sur_true.2 (by omega)), if_pos (by omega)]; show (4 : Nat) ≠ 2; decide
      | false =>
        refine ⟨[220, 0, 0], by decide, ?_⟩
        simp [unfK] at h2
        have e1 : unit2 false a b = 256 * b.toNat + a.toNat := rfl
        have e2 : unit2 false c 220 = 256 * 220 + c.toNat := rfl
        show (two16 (unit2 false a b) (unit2 false c 220)).2.1 ≠ (one16 (unit2 false a b)).2.1
        rw [one16_n, two16, if_pos (sur_true.2 (by omega)), if_pos (by omega)]; show (4 : Nat) ≠ 2; decide
    | a :: b :: c :: d :: t, _, h2 => cases big <;> simp [unfK] at h2
  | u8 =>
    cases s with
    | nil => exact absurd rfl hs
    | cons b t =>
      simp only [stepK] at h1 ⊢
      simp only [unfK, Bool.and_eq_true, decide_eq_true_eq] at h2
      obtain ⟨h2, h3, h4⟩ := h2
      have hb0 : ((b :: t : List UInt8).getD 0 0) = b := rfl
      rw [hb0] at h3 h4
      have g1 : ¬ b.toNat < 128 := by omega
      have g2 : ¬ more8 b.toNat = 0 := by unfold more8; split; omega; split; omega; split; omega; omega
      have hst : ∀ u, step8 (b :: u) = cont8 (more8 b.toNat) 1 (b.toNat % mod8 (more8 b.toNat)) (lo8 b.toNat) (hi8 b.toNat) u := fun u => by rw [step8, if_neg g1, if_neg g2]
      have key : ∀ (x : UInt8) (u : List UInt8), (t = [] → lo8 b.toNat ≤ x.toNat ∧ x.toNat ≤ hi8 b.toNat) → (t ≠ [] → 128 ≤ x.toNat ∧ x.toNat ≤ 191) → (step8 (b :: t ++ x :: u)).2.1 ≠ (step8 (b :: t)).2.1 := by
        intro x u k1 k2
        rw [h2, List.cons_append, hst]
        have := cont8_more (more8 b.toNat) 1 (b.toNat % mod8 (more8 b.toNat)) (lo8 b.toNat) (hi8 b.toNat) t x u (by rw [← hst]; exact h1) (by rw [← hst, h2]; simp; omega) k1 k2
        simp; omega
      by_cases ht : t = []
      · by_cases e1 : b.toNat = 224
        · exact ⟨[160, 128, 128], by decide, key 160 _ (fun _ => by rw [e1]; decide) (fun h => absurd ht h)⟩
        · by_cases e2 : b.toNat = 240
          · exact ⟨[144, 128, 128], by decide, key 144 _ (fun _ => by rw [e2]; decide) (fun h => absurd ht h)⟩
          · refine ⟨[128, 128, 128], by decide, key 128 _ (fun _ => ?_) (fun h => absurd ht h)⟩
            have e3 : (128 : UInt8).toNat = 128 := rfl
            rw [e3]
            unfold lo8 hi8
            rw [if_neg e1, if_neg e2]
            refine ⟨Nat.le_refl _, ?_⟩
            split
            · omega
            · split <;> omega
      · exact ⟨[128, 128, 128], by decide, key 128 _ (fun h => absurd h ht) (fun _ => by decide)⟩
/-- the seven endings tell what goes -/
theorem goes_iff (K : Cd) (s : List UInt8) (hs : s ≠ []) : goesK K s = true ↔ ∀ u ∈ ends7, stepK K (s ++ u) = stepK K s := by
  constructor
  · intro h u _; exact stepK_stay hs h u
  · intro h
    cases hg : goesK K s with
    | true => rfl
    | false => obtain ⟨u, hu, hne⟩ := stay7 K s hs hg; exact absurd (by rw [h u hu]) hne
end Go.Proofs.YtbcbmmgfdobdiaaDoor
/- The reference's strict, ill of layer 7. -/
namespace Go.Proofs.YtbcbmmgfdobdiaaDoor
open Go.RowKit

set_option maxRecDepth 100000 in
set_option maxHeartbeats 4000000 in
theorem rstrict_any (k1 : Int) (A1 : Option Addr) (n1 c1 : Nat) (q1 : List Int) (k2 : Int) (A2 : Option Addr) (n2 c2 : Nat) (q2 : List Int) (s : List UInt8) (w : World) (h1 : Reads w w.heap.size 1 A1 n1 (q1.map iv)) (h2 : Reads w w.heap.size 1 A2 n2 (q2.map iv)) (hC1 : CkE k1 q1 0) (hC2 : CkE k2 q2 0) (hs : s.length ≤ 100000) :
    Calls Tryd.prog 101 #[.agg #[.int .i64 k1, .slice A1 n1 c1], .agg #[.int .i64 k2, .slice A2 n2 c2], .string ⟨s.toArray⟩] w fun x w' => x = .returned (outT (strictR (cdOf k1 q1) (cdOf k2 q2) s)) ∧ Below w.heap.size w w' := by
  obtain ⟨K, hK⟩ : ∃ K, K = cdOf k1 q1 := ⟨_, rfl⟩
  obtain ⟨L, hL⟩ : ∃ K, K = cdOf k2 q2 := ⟨_, rfl⟩
  rw [← hK, ← hL]
  have HK := Lib.hid hK
  have HLd := Lib.hid hL
  have HgK := Lib.hid (show GoodK K by rw [hK]; exact good_cd hC1)
  clear hK hL
  have hb0 : Below w.heap.size w (((w.alloc (.cells #[.int .i64 k1, .slice A1 n1 c1] 26)).alloc (.cells #[.int .i64 k2, .slice A2 n2 c2] 26)).alloc (.cells #[.int .i64 0, .int .i64 0] 37)) := (((Below.refl _ _).alloc (Nat.le_refl _) _).alloc (by simp) _).alloc (by simp; omega) _
  have p1 : Blk (((w.alloc (.cells #[.int .i64 k1, .slice A1 n1 c1] 26)).alloc (.cells #[.int .i64 k2, .slice A2 n2 c2] 26)).alloc (.cells #[.int .i64 0, .int .i64 0] 37)) w.heap.size 26 #[.int .i64 k1, .slice A1 n1 c1] := ((Blk.new w _ _).alloc _).alloc _
  have p2 : Blk (((w.alloc (.cells #[.int .i64 k1, .slice A1 n1 c1] 26)).alloc (.cells #[.int .i64 k2, .slice A2 n2 c2] 26)).alloc (.cells #[.int .i64 0, .int .i64 0] 37)) (w.heap.size + 1) 26 #[.int .i64 k2, .slice A2 n2 c2] := by
    have := (Blk.new (w.alloc (.cells #[.int .i64 k1, .slice A1 n1 c1] 26)) 26 #[.int .i64 k2, .slice A2 n2 c2]).alloc (.cells #[.int .i64 0, .int .i64 0] 37)
    simpa using this
  have p3 : Blk (((w.alloc (.cells #[.int .i64 k1, .slice A1 n1 c1] 26)).alloc (.cells #[.int .i64 k2, .slice A2 n2 c2] 26)).alloc (.cells #[.int .i64 0, .int .i64 0] 37)) (w.heap.size + 1 + 1) 37 #[.int .i64 0, .int .i64 0] := by
    have := Blk.new ((w.alloc (.cells #[.int .i64 k1, .slice A1 n1 c1] 26)).alloc (.cells #[.int .i64 k2, .slice A2 n2 c2] 26)) 37 #[.int .i64 0, .int .i64 0]
    simpa using this
  have H1 := Lib.hid (h1.stay hb0)
  have H2 := Lib.hid (h2.stay hb0)
  have HC1 := Lib.hid hC1
  have HC2 := Lib.hid hC2
  have g0 := p1.cell 0
  have g1 := p1.cell 1
  have g2 := p2.cell 0
  have g3 := p2.cell 1
  have P1 := Lib.hid p1
  have P2 := Lib.hid p2
  have P3 := Lib.hid p3
  have B0 := Lib.hid hb0
  clear hb0 p1 p2 p3 h1 h2 hC1 hC2 g0 g1 g2 g3
  go_enter Tryd.func101, Tryd.ntmps101
  go_wp2_with fail
  obtain ⟨W, hW⟩ : ∃ W, W = (((w.alloc (.cells #[.int .i64 k1, .slice A1 n1 c1] 26)).alloc (.cells #[.int .i64 k2, .slice A2 n2 c2] 26)).alloc (.cells #[.int .i64 0, .int .i64 0] 37)) := ⟨_, rfl⟩
  rw [← hW] at H1 H2 P1 P2 P3 B0 ⊢
  clear hW
  go_loopw [8, 9] (fun ov a wr => ∃ (k f : Nat) (out : List UInt8), k ≤ s.length ∧ a = .int .i64 (k : Int) ∧ ov = .string ⟨out.toArray⟩ ∧ s.length - k ≤ f ∧ out.length ≤ 4 * k ∧ Hid (strictR K L s = preS out (strictK K L f k (s.drop k))) ∧ Hid (Below W.heap.size W wr)) (fun _ a _ => s.length - (intOf a).toNat)
  case atStart => exact ⟨0, s.length, [], by omega, rfl, rfl, by omega, by simp, Lib.hid (by rw [strictR, List.drop_zero, preS_nil]), Lib.hid (Below.refl _ _)⟩
  case round =>
    obtain ⟨k, f, out, hk, rfl, rfl, hf, hol, Hee, Hb⟩ := hrel
    have P1r := Lib.hid (P1.out.stay Hb.out)
    have P3r := Lib.hid (P3.out.stay Hb.out)
    have BW := Lib.hid (B0.out.trans (Hb.out.mono B0.out.size))
    have H1r := Lib.hid (H1.out.stay Hb.out)
    have hsz : w.heap.size + 1 + 1 < wr.heap.size := P3r.out.lt
    by_cases hlt : k < s.length
    · have hne : s.drop k ≠ [] := by intro e; have := congrArg List.length e; rw [List.length_drop] at this; simp at this; omega
      have hbd := stepK_bd K (s.drop k) hne
      have hki : (k : Int) < (s.length : Int) := by omega
      have hki2 : (k : Int) ≤ (s.length : Int) := by omega
      have hext := ext_drop s k
      obtain ⟨f', rfl⟩ : ∃ f', f = f' + 1 := ⟨f - 1, by omega⟩
      have HTl := Lib.hid (show (s.drop k).length ≤ 1000000 by rw [List.length_drop]; omega)
      obtain ⟨⟨z, m, b⟩, hr⟩ : ∃ r, stepK K (s.drop k) = r := ⟨_, rfl⟩
      have Hst := Lib.hid hr
      rw [hr] at hbd
      have hm1 : 1 ≤ m := hbd.1
      have hm2 : m + k ≤ s.length := by have := hbd.2.2; rw [List.length_drop] at this; simp at this; omega
      have Hdd := Lib.hid (show (s.drop k).drop m = s.drop (k + m) by rw [List.drop_drop])
      have Hne := Lib.hid hne
      clear hbd hr hne
      obtain ⟨T, hT⟩ : ∃ T, T = s.drop k := ⟨_, rfl⟩
      rw [← hT] at hext HTl Hst Hdd Hne Hee
      clear hT
      have CR := Lib.hid (show ∀ u, Below wr.heap.size wr u → Calls Tryd.prog 26 #[.agg #[.int .i64 k1, .slice A1 n1 c1], .string ⟨T.toArray⟩] u fun e v => e = .returned (.tuple #[.int .i64 (z : Int), .int .i64 (m : Int), .bool b]) ∧ Below wr.heap.size wr v from fun u hu =>
        (rstep_any k1 A1 n1 c1 q1 0 T u (H1r.out.stay hu) HC1.out HTl.out).mono fun e v ⟨h1, h2⟩ => ⟨by rw [h1]; unfold stR; rw [if_pos rfl, ← HK.out, Hst.out]; rfl, hu.trans (h2.mono hu.size)⟩)
      have KC := Lib.hid (show ∀ u, Below wr.heap.size wr u → u.cell? ⟨w.heap.size, 0, none⟩ = some (.int .i64 k1) ∧ u.cell? ⟨w.heap.size, 1, none⟩ = some (.slice A1 n1 c1) from fun u hu => ⟨(P1r.out.stay hu).cell 0, (P1r.out.stay hu).cell 1⟩)
      have HbD := Lib.hid ((Below.refl wr.heap.size wr).drew)
      go_wp2_with fail
      go_region_held3 (fun u => u.cell? ⟨w.heap.size, 0, none⟩ = some (.int .i64 k1) ∧ u.cell? ⟨w.heap.size, 1, none⟩ = some (.slice A1 n1 c1)) (first | exact KC.out _ HbD.out | exact KC.out _ hbS) (first | (go_at_call 26; (with_reducible refine (CR.out _ HbD.out).mono ?_); rintro e w5 ⟨rfl, hbS⟩))
      have HbS := Lib.hid (Hb.out.trans (hbS.mono Hb.out.size))
      replace P3r := Lib.hid (P3r.out.stay hbS)
      replace BW := Lib.hid (BW.out.trans (hbS.mono BW.out.size))
      have P2r := Lib.hid (P2.out.stay HbS.out)
      have H2r := Lib.hid (H2.out.stay HbS.out)
      clear hbS
      cases b with
      | false =>
        have He := Lib.hid (show strictR K L s = .error (9, k) by rw [Hee.out, strictK_ill Hne.out Hst.out]; rfl)
        have hF2 := P3r.out
        have z0 := hF2.cell 0
        have z1 := hF2.cell 1
        have f0 := hF2.frozen 0
        have f1 := hF2.frozen 1
        have hF3 := (hF2.set_ 0 (.int .i64 9)).set_ 1 (.int .i64 (k : Int))
        have bF := (BW.out.setCell (p := ⟨w.heap.size + 1 + 1, 0, none⟩) (by simp; omega) (.int .i64 9)).setCell (p := ⟨w.heap.size + 1 + 1, 1, none⟩) (by simp; omega) (.int .i64 (k : Int))
        have D := Lib.hid (And.intro (hF3.cell 0) (hF3.cell 1))
        have BF := Lib.hid bF
        clear hF3 bF
        go_wp2
        obtain ⟨d0, d1⟩ := D.out
        have bF := BF.out
        clear D BF z0 z1 f0 f1 hF2
        generalize World.setCell (World.setCell _ ⟨w.heap.size + 1 + 1, 0, none⟩ (.int .i64 9)) ⟨w.heap.size + 1 + 1, 1, none⟩ (.int .i64 (k : Int)) = V at d0 d1 bF ⊢
        exact bodyPost_ret (v := .tuple #[.string ⟨([] : List UInt8).toArray⟩, .agg #[.int .i64 9, .int .i64 (k : Int)]]) (by simp [results, Tryd.results101, go_sem] at d0 d1 ⊢; simp [d0, d1]) rfl ⟨by rw [He.out]; rfl, bF⟩
      | true =>
        have g2 := P2r.out.cell 0
        have g3 := P2r.out.cell 1
        go_wp2_with fail
        clear g2 g3
        refine (rput_any k2 A2 n2 c2 q2 0 (z : Int) w5 H2r.out HC2.out).mono ?_
        rintro e w6 ⟨rfl, hb6⟩
        unfold puR
        rw [if_pos rfl, ← HLd.out]
        replace HbS := Lib.hid (HbS.out.trans (hb6.mono HbS.out.size))
        replace P3r := Lib.hid (P3r.out.stay hb6)
        replace BW := Lib.hid (BW.out.trans (hb6.mono BW.out.size))
        clear hb6
        cases hfm : formK L (z : Int) with
        | none =>
          have He := Lib.hid (show strictR K L s = .error (10, k) by rw [Hee.out, strictK_un Hne.out Hst.out hfm]; rfl)
          clear hfm
          unfold formV
          have hF2 := P3r.out
          have z0 := hF2.cell 0
          have z1 := hF2.cell 1
          have f0 := hF2.frozen 0
          have f1 := hF2.frozen 1
          have hF3 := (hF2.set_ 0 (.int .i64 10)).set_ 1 (.int .i64 (k : Int))
          have bF := (BW.out.setCell (p := ⟨w.heap.size + 1 + 1, 0, none⟩) (by simp; omega) (.int .i64 10)).setCell (p := ⟨w.heap.size + 1 + 1, 1, none⟩) (by simp; omega) (.int .i64 (k : Int))
          have D := Lib.hid (And.intro (hF3.cell 0) (hF3.cell 1))
          have BF := Lib.hid bF
          clear hF3 bF
          go_wp2
          obtain ⟨d0, d1⟩ := D.out
          have bF := BF.out
          clear D BF z0 z1 f0 f1 hF2
          generalize World.setCell (World.setCell _ ⟨w.heap.size + 1 + 1, 0, none⟩ (.int .i64 10)) ⟨w.heap.size + 1 + 1, 1, none⟩ (.int .i64 (k : Int)) = V at d0 d1 bF ⊢
          exact bodyPost_ret (v := .tuple #[.string ⟨([] : List UInt8).toArray⟩, .agg #[.int .i64 10, .int .i64 (k : Int)]]) (by simp [results, Tryd.results101, go_sem] at d0 d1 ⊢; simp [d0, d1]) rfl ⟨by rw [He.out]; rfl, bF⟩
        | some x =>
          have hxl := (formK_ne hfm).2
          have Hnx := Lib.hid (show strictR K L s = preS (out ++ x) (strictK K L f' (k + m) (s.drop (k + m))) by rw [Hee.out, strictK_ok Hne.out Hst.out hfm, preS_preS, Hdd.out])
          have hcat : (⟨out.toArray⟩ : ByteArray) ++ ⟨x.toArray⟩ = ⟨(out ++ x).toArray⟩ := ByteArray.mk_append_mk out x
          clear hfm
          unfold formV
          simp only [Option.getD_some, Option.isSome_some]
          go_wp2
          go_roundw
          case rel => exact ⟨k + m, f', out ++ x, by omega, by go_num, rfl, by omega, by rw [List.length_append]; omega, Hnx, HbS⟩
          case measure => simp [intOf]; omega
    · have He := Lib.hid (show strictR K L s = .ok out by rw [Hee.out, List.drop_of_length_le (by omega), strictK_nil]; simp [preS])
      have hki : ¬ (k : Int) < (s.length : Int) := by omega
      have hF2 := P3r.out
      have z0 := hF2.cell 0
      have z1 := hF2.cell 1
      have f0 := hF2.frozen 0
      have f1 := hF2.frozen 1
      have hF3 := (hF2.set_ 0 (.int .i64 0)).set_ 1 (.int .i64 0)
      have bF := (BW.out.setCell (p := ⟨w.heap.size + 1 + 1, 0, none⟩) (by simp; omega) (.int .i64 0)).setCell (p := ⟨w.heap.size + 1 + 1, 1, none⟩) (by simp; omega) (.int .i64 0)
      have D := Lib.hid (And.intro (hF3.cell 0) (hF3.cell 1))
      have BF := Lib.hid bF
      clear hF3 bF
      go_wp2
      obtain ⟨d0, d1⟩ := D.out
      have bF := BF.out
      clear D BF z0 z1 f0 f1 hF2
      generalize World.setCell (World.setCell _ ⟨w.heap.size + 1 + 1, 0, none⟩ (.int .i64 0)) ⟨w.heap.size + 1 + 1, 1, none⟩ (.int .i64 0) = V at d0 d1 bF ⊢
      exact bodyPost_ret (v := .tuple #[.string ⟨out.toArray⟩, .agg #[.int .i64 0, .int .i64 0]]) (by simp [results, Tryd.results101, go_sem] at d0 d1 ⊢; simp [d0, d1]) rfl ⟨by rw [He.out]; rfl, bF⟩

theorem digs7_at : ∀ x : Fin 16, ((⟨#[48, 49, 50, 51, 52, 53, 54, 55, 56, 57, 65, 66, 67, 68, 69, 70]⟩ : ByteArray)[x.val]'(by have := x.isLt; exact this)).toNat = (dg x.val).toNat := by decide +kernel
set_option maxRecDepth 100000 in
set_option maxHeartbeats 4000000 in
theorem rill_any (s : List UInt8) (p : Int) (w : World) (hs : s.length ≤ 1000000) (hp2 : 2 ≤ p) (hp4 : p ≤ 4) :
    Calls Tryd.prog 107 #[.string ⟨s.toArray⟩, .int .i64 p] w fun e w' => ∃ v', e = .returned v' ∧ w'.ownsRow w.heap.size 3 1 v' (ill8 s p).length ((ill8 s p).map iv) ∧ Below w.heap.size w w' := by
  obtain ⟨i0, hi, hz0, hz1, hz2⟩ := info_parts Tryd.info3
  by_cases e3 : p = 3
  · subst e3
    have Hi := Lib.hid (show ill8 s 3 = [] by simp [ill8])
    rw [Hi.out]
    go_enter Tryd.func107, Tryd.ntmps107
    go_wp2
    go_ret
    exact ⟨_, rfl, World.ownsRow_nil _ _ _ _, Below.refl _ _⟩
  by_cases e2 : p = 2
  · subst e2
    clear e3
    have Hi := Lib.hid (show ill8 s 2 = [65533] by simp [ill8])
    rw [Hi.out]
    have ho : (w.alloc (.cells #[.int .i64 65533] 3)).ownsRow w.heap.size 3 1 (.slice (some ⟨w.heap.size, 0, none⟩) 1 1) 1 [.int .i64 65533] := ⟨by simp, .inr ⟨w.heap.size, 1, #[.int .i64 65533], rfl, Nat.le_refl _, heap_alloc_new w _, Nat.le_refl _, by unfold maxLen; omega, rfl, by simp⟩⟩
    have HO := Lib.hid ho
    clear ho
    go_enter Tryd.func107, Tryd.ntmps107
    go_wp2
    go_ret
    exact ⟨_, rfl, HO.out, below_new _ _⟩
  obtain rfl : p = 4 := by omega
  clear e2 e3
  have Hi := Lib.hid (show ill8 s 4 = esc8 s by simp [ill8])
  have Hel := Lib.hid (esc8_len s)
  rw [Hi.out, Hel.out]
  go_enter Tryd.func107, Tryd.ntmps107
  go_wp2
  go_loopw [5, 6] (fun v i wr => ∃ k : Nat, k ≤ s.length ∧ i = .int .i64 k ∧ wr.ownsRow w.heap.size 3 1 v (4 * k) ((esc8 (s.take k)).map iv) ∧ Below w.heap.size w wr) (fun _ i _ => s.length - (intOf i).toNat)
  case atStart => exact ⟨0, Nat.zero_le _, rfl, World.ownsRow_nil _ _ _ _, Below.refl _ _⟩
  case round =>
    obtain ⟨k, hk, rfl, ho, hb⟩ := hrel
    by_cases hlt : k < s.length
    · obtain ⟨x, hx, hx2, hx256⟩ := byte8_at (s := s) (k := k) hlt
      have Hs := Lib.hid (esc8_snoc s k hlt)
      have He1 := Lib.hid (show (esc1 s[k]).map iv = [.int .i64 92, .int .i64 120, .int .i64 ((dg (x / 16)).toNat : Int), .int .i64 ((dg (x % 16)).toNat : Int)] by rw [esc1, hx2]; rfl)
      have hk3 : (k : Int) < (s.length : Int) := by omega
      clear hx2
      have g1 := digs7_at ⟨x / 16, by omega⟩
      have g2 := digs7_at ⟨x % 16, by omega⟩
      simp only at g1 g2
      have ha := (dg (x / 16)).toNat_lt
      have hbb := (dg (x % 16)).toNat_lt
      have hbz := hb.size
      generalize (dg (x / 16)).toNat = a at He1 ha g1
      generalize (dg (x % 16)).toNat = b at He1 hbb g2
      have qa : IntKind.i64.wrap (a : Int) = (a : Int) := IntWalk.i64_in _ (by omega)
      have qb : IntKind.i64.wrap (b : Int) = (b : Int) := IntWalk.i64_in _ (by omega)
      have Qa := Lib.hid qa
      have Qb := Lib.hid qb
      clear qa qb
      go_wp2
      have q1 : IntKind.u8.wrap ((x : Int) / 16) = (x : Int) / 16 := by rw [IntKind.wrap_u8]; omega
      have q2 : IntKind.u8.wrap ((x : Int) % 16) = (x : Int) % 16 := by rw [IntKind.wrap_u8]; omega
      have q4 : (x : Int).tmod 16 = (x : Int) % 16 := Int.tmod_eq_emod_of_nonneg (by omega)
      have r1 : 0 ≤ (x : Int) / 16 := by omega
      have r2 : (x : Int) / 16 < 16 := by omega
      have r3 : ((x : Int) / 16).toNat = x / 16 := by omega
      have t1 : 0 ≤ (x : Int) % 16 := by omega
      have t2 : (x : Int) % 16 < 16 := by omega
      have t3 : ((x : Int) % 16).toNat = x % 16 := by omega
      go_region_held3 (fun _ => True) (trivial) ((refine step_appN (by rfl) (.tmp 19) (.tmp 32) 22 (by rfl) Tryd.underlying22 hi hz0 hz1 hz2 rfl (by omega) u5 (4 * k) ((esc8 (s.take k)).map iv) (by rfl) ((ho.alloc _).drew) [.int .i64 92, .int .i64 120, .int .i64 (IntKind.i64.wrap (a : Int)), .int .i64 (IntKind.i64.wrap (b : Int))] 4 (by omega) rfl ⟨wr.heap.size, 0, none⟩ (by rfl) (World.news_of_block (cs := #[.int .i64 92, .int .i64 120, .int .i64 (IntKind.i64.wrap (a : Int)), .int .i64 (IntKind.i64.wrap (b : Int))]) (t := 3) (fr := (0, 0)) (heap_alloc_new wr _)) (by simp [Value.oneCell']) (by omega) (by simp; omega) ?_; intro v3 w3 ho3 hB3 _))
      all_goals
        clear q1 q2 q4 r1 r2 r3 t1 t2 t3 g1 g2
        have HB := Lib.hid (hb.trans (((((Below.refl _ _).alloc hbz _).drew).trans hB3)))
        clear hB3
        rw [Qa.out, Qb.out, ← He1.out, ← List.map_append, ← Hs.out] at ho3
        go_wp2
        go_roundw
        case rel => exact ⟨k + 1, by omega, by go_num, by rw [show 4 * (k + 1) = 4 * k + 4 by omega]; exact ho3, HB.out⟩
        case measure => simp [intOf]; omega
    · have Ht := Lib.hid (show s.take k = s from List.take_of_length_le (by omega))
      obtain rfl : k = s.length := by omega
      rw [Ht.out] at ho
      go_wp2
      go_ret
      exact ⟨u5, rfl, ho, hb⟩
end Go.Proofs.YtbcbmmgfdobdiaaDoor
/- The reference's Decode of layer 7, the policies other than Fail. -/
namespace Go.Proofs.YtbcbmmgfdobdiaaDoor
open Go.RowKit

set_option maxRecDepth 100000 in
set_option maxHeartbeats 4000000 in
theorem rdecode_good (kind : Int) (A : Option Addr) (n c : Nat) (codes : List Int) (s : List UInt8) (p : Int) (w : World) (h : Reads w w.heap.size 1 A n (codes.map iv)) (hC : CkE kind codes 0) (hp2 : 2 ≤ p) (hp4 : p ≤ 4) (hs : s.length ≤ 100000) :
    Calls Tryd.prog 102 #[.agg #[.int .i64 kind, .slice A n c], .string ⟨s.toArray⟩, .int .i64 p] w fun e w' => ∃ r, e = .returned (.tuple #[r, .agg #[.int .i64 0, .int .i64 0]]) ∧
      w'.ownsRow w.heap.size 3 1 r (decF (cdOf kind codes) p s).length ((decF (cdOf kind codes) p s).map iv) ∧ Below w.heap.size w w' := by
  obtain ⟨i0, hi, hz0, hz1, hz2⟩ := info_parts Tryd.info3
  obtain ⟨K, hK⟩ : ∃ K, K = cdOf kind codes := ⟨_, rfl⟩
  rw [← hK]
  have HK := Lib.hid hK
  clear hK
  have hp1 : p ≠ 1 := by omega
  have hp1n : (p == 1) = false := by simp; omega
  have Hkn := Lib.hid (show knownB p = true by unfold knownB; simp; omega)
  have Hde := Lib.hid (decF_eq (K := K) hp1 s)
  obtain ⟨V, hV⟩ : ∃ V, V = w.alloc (.cells #[.int .i64 kind, .slice A n c] 26) := ⟨_, rfl⟩
  have hVs : V.heap.size = w.heap.size + 1 := by rw [hV]; simp
  have bV : Below w.heap.size w V := by rw [hV]; exact below_new _ _
  have hB : Blk V w.heap.size 26 #[.int .i64 kind, .slice A n c] := by rw [hV]; exact Blk.new _ _ _
  obtain ⟨W, hW⟩ : ∃ W, W = V.alloc (.cells #[.int .i64 0, .int .i64 0] 37) := ⟨_, rfl⟩
  have bW : Below V.heap.size V W := by rw [hW]; exact below_new _ _
  have hF : Blk W V.heap.size 37 #[.int .i64 0, .int .i64 0] := by rw [hW]; exact Blk.new _ _ _
  have HB := Lib.hid (hB.stay bW)
  have HR := Lib.hid ((h.stay bV).stay bW)
  have HF := Lib.hid hF
  have HVW := Lib.hid bW
  have HwV := Lib.hid bV
  have HC := Lib.hid hC
  have HBV := Lib.hid hB
  have H0 := Lib.hid h
  clear bV bW hB hF h hC
  have g0 := HB.out.cell 0
  have g1 := HB.out.cell 1
  rw [hW, hV] at g0 g1
  go_enter Tryd.func102, Tryd.ntmps102
  go_wp2_with fail
  clear g0 g1
  rw [← hV, ← hW]
  clear hW hV
  refine (rcheck_any kind A n c codes 0 W HR.out HC.out).mono ?_
  rintro x w1 ⟨rfl, hb1⟩
  replace HB := Lib.hid (HB.out.stay hb1)
  replace HR := Lib.hid (HR.out.stay hb1)
  replace HF := Lib.hid (HF.out.stay hb1)
  replace HVW := Lib.hid (HVW.out.trans (hb1.mono HVW.out.size))
  clear hb1
  go_wp2_with fail
  refine (rknown_any p w1).mono ?_
  rintro x w2 ⟨rfl, rfl⟩
  rw [Hkn.out]
  have hFs : V.heap.size = w.heap.size + 1 := hVs
  go_wp2_with fail
  go_loopw [8, 9] (fun v i wr => DecKRel V K s p v i wr) (fun _ i _ => s.length - (intOf i).toNat)
  case atStart => exact ⟨0, s.length, [], Nat.zero_le _, rfl, by simp, by simp, by show _ = _; rw [pre8_nil]; rfl, World.ownsRow_nil _ _ _ _, HF, HVW⟩
  case round =>
    obtain ⟨k, f, out, hk, rfl, hf, hol, Hee, ho, HFr, Hb⟩ := hrel
    have HBr := Lib.hid (HBV.out.below Hb.out (by omega))
    have Hwr := Lib.hid (HwV.out.trans (Hb.out.mono HwV.out.size))
    have HRr := Lib.hid ((H0.out.below Hwr.out).up Hwr.out.size)
    have hsz : V.heap.size + 1 ≤ wr.heap.size := Blk.lt HFr.out
    by_cases hlt : k < s.length
    · have hne : s.drop k ≠ [] := by intro e; have := congrArg List.length e; rw [List.length_drop, List.length_nil] at this; omega
      have hbd := stepK_bd K _ hne
      have hx1 := ext_drop s k
      obtain ⟨⟨z, m, ok⟩, hst⟩ : ∃ x, stepK K (s.drop k) = x := ⟨_, rfl⟩
      rw [hst] at hbd
      simp only at hbd
      obtain ⟨hn1, hn4, hn3⟩ := hbd
      have hTl : (s.drop k).length = s.length - k := List.length_drop
      rw [hTl] at hn3
      obtain ⟨g, rfl⟩ : ∃ g, f = g + 1 := ⟨f - 1, by rw [hTl] at hf; omega⟩
      have hx2 := ext_part s k m
      have Hnx := Lib.hid (fun (add : List Int) (v2 : Value) (w2 : World) h1 h2 h3 h4 h5 => decK_next (w := V) (w2 := w2) (p := p) (add := add) (v2 := v2) hn1 (show k + m ≤ s.length by omega) hf hol h1 Hee.out h2 h3 h4 h5)
      have Hst := Lib.hid hst
      have Hne := Lib.hid hne
      have hpl : ((s.drop k).take m).length ≤ 4 := by rw [List.length_take]; omega
      have HTl := Lib.hid (show (s.drop k).length ≤ 1000000 by omega)
      clear hst hne hf hTl
      generalize hT : s.drop k = T at hx1 hx2 Hst Hne hpl HTl
      have HT := Lib.hid hT
      clear hT
      generalize hP : T.take m = P at hx2 hpl
      have HP := Lib.hid hP
      clear hP
      have hki : (k : Int) < (s.length : Int) := by omega
      have hki2 : (k : Int) ≤ (s.length : Int) := by omega
      have hkn1 : (k : Int) + (m : Int) ≤ (s.length : Int) := by omega
      have CR := Lib.hid (show Calls Tryd.prog 26 #[.agg #[.int .i64 kind, .slice A n c], .string ⟨T.toArray⟩] wr.drew fun e v => e = .returned (.tuple #[.int .i64 (z : Int), .int .i64 (m : Int), .bool ok]) ∧ Below wr.heap.size wr v from
        (rstep_any kind A n c codes 0 T wr.drew HRr.out.drew HC.out HTl.out).mono fun e v ⟨h1, h2⟩ => ⟨by rw [h1]; unfold stR; rw [if_pos rfl, ← HK.out, Hst.out]; rfl, (Below.refl wr.heap.size wr).drew.trans h2⟩)
      have KC := Lib.hid (show ∀ u, Below wr.heap.size wr u → u.cell? ⟨w.heap.size, 0, none⟩ = some (.int .i64 kind) ∧ u.cell? ⟨w.heap.size, 1, none⟩ = some (.slice A n c) from fun u hu => ⟨(HBr.out.stay hu).cell 0, (HBr.out.stay hu).cell 1⟩)
      have HbD := Lib.hid ((Below.refl wr.heap.size wr).drew)
      have HO := Lib.hid ho
      clear ho
      go_wp2_with fail
      go_region_held3 (fun u => u.cell? ⟨w.heap.size, 0, none⟩ = some (.int .i64 kind) ∧ u.cell? ⟨w.heap.size, 1, none⟩ = some (.slice A n c)) (first | exact KC.out _ HbD.out | exact KC.out _ hbS) (first | (go_at_call 26; (with_reducible refine CR.out.mono ?_); rintro e w5 ⟨rfl, hbS⟩))
      have ho5 := own_below HO.out hbS
      have HF5 := Lib.hid (HFr.out.stay hbS)
      have Hb5 := Lib.hid (Hb.out.trans (hbS.mono Hb.out.size))
      have hsz5 : V.heap.size + 1 ≤ w5.heap.size := Nat.le_trans hsz hbS.size
      clear hbS HO
      cases ok with
      | true =>
        have Hs := Lib.hid (show decK K p (g + 1) k (s.drop k) = pre8 [(z : Int)] (decK K p g (k + m) ((s.drop k).drop m)) by rw [HT.out]; exact decK_ok Hne.out Hst.out)
        go_wp2_with (at_builtin; go_must (refine wpList_app1 rfl (.tmp 35) (.tmp 37) 22 rfl Tryd.underlying22 hi hz0 hz1 hz2 rfl (by omega) w5 u8 _ _ rfl ho5 _ rfl rfl (by omega) hsz5 ?_); intro v3 w3 ho3 hB3 hG3)
        go_roundw
        case rel => exact Hnx.out [(z : Int)] _ _ (by simp; omega) Hs.out (Blk.below HF5.out hB3 (by omega)) (Hb5.out.trans (hB3.mono (by omega))) ho3
        case measure => simp [intOf]; omega
      | false =>
        have Hs := Lib.hid (show decK K p (g + 1) k (s.drop k) = pre8 (ill8 P p) (decK K p g (k + m) ((s.drop k).drop m)) by rw [HT.out, ← HP.out]; exact decK_ill Hne.out Hst.out hp1)
        have hil : (ill8 P p).length ≤ 5 * m := by
          have h1 := ill8_len P p
          have h2 : P.length ≤ m := by rw [← HP.out, List.length_take]; omega
          omega
        have HO5 := Lib.hid ho5
        clear ho5
        go_wp2_with fail
        refine (rill_any P p w5 (by omega) hp2 hp4).mono ?_
        rintro e w6 ⟨v', rfl, hov, hb6⟩
        obtain ⟨Av, cv, rfl, _, hrv⟩ := val_of_own hov
        have ho6 := own_below HO5.out hb6
        have HF6 := Lib.hid (HF5.out.stay hb6)
        have Hb6 := Lib.hid (Hb5.out.trans (hb6.mono Hb5.out.size))
        have hsz6 : V.heap.size + 1 ≤ w6.heap.size := Nat.le_trans hsz5 hb6.size
        clear hov hb6
        go_wp2_with (at_builtin; go_must (refine wpList_appR rfl (.tmp 43) (.tmp 51) 22 rfl Tryd.underlying22 hi hz0 hz1 hz2 rfl (by omega) w6 u8 _ _ rfl ho6 rfl hrv (iv_one _) (by omega) hsz6 ?_); intro v3 w3 ho3 hB3 _)
        go_roundw
        case rel => exact Hnx.out (ill8 P p) _ _ hil Hs.out (Blk.below HF6.out hB3 (by omega)) (Hb6.out.trans (hB3.mono (by omega))) ho3
        case measure => simp [intOf]; omega
    · have Hok := Lib.hid (show decF K p s = out by
        have h1 := Hde.out
        rw [Hee.out, List.drop_of_length_le (by omega), decK_nil] at h1
        simp [pre8] at h1; exact h1.symm)
      have hki : ¬ (k : Int) < (s.length : Int) := by omega
      have hFr := HFr.out
      unfold flt8 at hFr
      rw [hVs] at hFr ho hsz
      have c0 := hFr.cell 0
      have c1 := hFr.cell 1
      have f0 := hFr.frozen 0
      have f1 := hFr.frozen 1
      have hF2 := (hFr.set_ 0 (.int .i64 0)).set_ 1 (.int .i64 0)
      have d0 := hF2.cell 0
      have d1 := hF2.cell 1
      obtain ⟨A1, c2, rfl, _, hr1⟩ := val_of_own ho
      have OF := Lib.hid (own_base (ownsRow_setCell_below (ownsRow_setCell_below (a := ⟨w.heap.size + 1, 0, none⟩) ho (by simp) (.int .i64 0)) (a := ⟨w.heap.size + 1, 1, none⟩) (by simp) (.int .i64 0)) (base' := w.heap.size) (by omega))
      have BF := Lib.hid ((Hwr.out.setCell (p := ⟨w.heap.size + 1, 0, none⟩) (by simp) (.int .i64 0)).setCell (p := ⟨w.heap.size + 1, 1, none⟩) (by simp) (.int .i64 0))
      clear hF2 hr1 ho
      go_wp2
      rw [Hok.out]
      exact bodyPost_ret (v := .tuple #[.slice A1 out.length c2, .agg #[.int .i64 0, .int .i64 0]]) (by simp [results, Tryd.results102, go_sem] at d0 d1 ⊢; simp [d0, d1]) rfl ⟨_, rfl, OF.out, BF.out⟩
end Go.Proofs.YtbcbmmgfdobdiaaDoor
/- The reference's puts, lost of layer 7. -/
namespace Go.Proofs.YtbcbmmgfdobdiaaDoor
open Go.RowKit

def putsK (K : Cd) (l : List Int) : List UInt8 := l.flatMap fun c => (formK K c).getD []
theorem getD_len (K : Cd) (c : Int) : ((formK K c).getD []).length ≤ 4 := by
  cases h : formK K c with
  | none => simp
  | some y => exact (formK_ne h).2
theorem putsK_len (K : Cd) (l : List Int) : (putsK K l).length ≤ 4 * l.length := by
  induction l with
  | nil => simp [putsK]
  | cons c l ih =>
    have := getD_len K c
    unfold putsK at ih ⊢
    rw [List.flatMap_cons, List.length_append, List.length_cons]; omega
theorem putsK_succ (K : Cd) {l : List Int} {k : Nat} {x : Int} (h : l[k]? = some x) : putsK K (l.take (k + 1)) = putsK K (l.take k) ++ (formK K x).getD [] := by
  obtain ⟨hk, he⟩ := List.getElem?_eq_some_iff.1 h
  unfold putsK
  rw [List.take_succ_eq_append_getElem hk, he, List.flatMap_append]; simp
theorem putsK_esc (K : Cd) (c : Int) : putsK K (esc16 c) = escK K c := by
  unfold putsK escK esc16 txt
  rw [List.flatMap_map]

set_option maxRecDepth 100000 in
set_option maxHeartbeats 4000000 in
theorem rputs_any (kind : Int) (A : Option Addr) (n c : Nat) (codes : List Int) (Al : Option Addr) (nl cl : Nat) (l : List Int) (w : World) (h : Reads w w.heap.size 1 A n (codes.map iv)) (hl : Reads w w.heap.size 1 Al nl (l.map iv)) (hC : CkE kind codes 0) (hn : nl ≤ 100) :
    Calls Tryd.prog 109 #[.agg #[.int .i64 kind, .slice A n c], .slice Al nl cl] w fun e w' => e = .returned (.string ⟨(putsK (cdOf kind codes) l).toArray⟩) ∧ Below w.heap.size w w' := by
  obtain ⟨K, hK⟩ : ∃ K, K = cdOf kind codes := ⟨_, rfl⟩
  rw [← hK]
  have HK := Lib.hid hK
  clear hK
  have Hll := Lib.hid (show l.length = nl from len_of hl)
  have bn := below_new w (.cells #[.int .i64 kind, .slice A n c] 26)
  have HB := Lib.hid (Blk.new w 26 #[.int .i64 kind, .slice A n c])
  have HR := Lib.hid (h.stay bn)
  have HX := Lib.hid (hl.stay bn)
  have HL := Lib.hid bn
  have HC := Lib.hid hC
  clear bn h hl hC
  go_enter Tryd.func109, Tryd.ntmps109
  go_wp2_with fail
  obtain ⟨W, hW⟩ : ∃ W, W = w.alloc (.cells #[.int .i64 kind, .slice A n c] 26) := ⟨_, rfl⟩
  rw [← hW] at HB HR HX HL ⊢
  clear hW
  go_loopw [5, 6] (fun o i wr => ∃ (k : Nat), k ≤ nl ∧ i = .int .i64 (k : Int) ∧ o = .string ⟨(putsK K (l.take k)).toArray⟩ ∧ Hid (Below W.heap.size W wr)) (fun _ i _ => nl - (intOf i).toNat)
  case atStart => exact ⟨0, by omega, rfl, by simp [putsK], Lib.hid (Below.refl _ _)⟩
  case round =>
    obtain ⟨k, hk, rfl, rfl, Hb⟩ := hrel
    by_cases hlt : k < nl
    · obtain ⟨ad, u, rfl, hadl, hu, hcell⟩ := (HX.out.stay Hb.out).at_ hlt
      obtain ⟨x, hx, rfl⟩ := iv_at hu
      have Hs := Lib.hid (putsK_succ K hx)
      have hxl := getD_len K x
      have hpl := putsK_len K (l.take k)
      rw [List.length_take] at hpl
      have hki : (k : Int) < (nl : Int) := by omega
      clear hu hx
      have CR := Lib.hid (show Calls Tryd.prog 29 #[.agg #[.int .i64 kind, .slice A n c], .int .i64 x] wr.drew fun e v => e = .returned (formV (formK K x)) ∧ Below wr.heap.size wr v from
        (rput_any kind A n c codes 0 x wr.drew (HR.out.stay Hb.out).drew HC.out).mono fun e v ⟨h1, h2⟩ => ⟨by rw [h1]; unfold puR; rw [if_pos rfl, ← HK.out], (Below.refl wr.heap.size wr).drew.trans h2⟩)
      obtain ⟨Y, hY⟩ : ∃ Y, Y = (formK K x).getD [] := ⟨_, rfl⟩
      obtain ⟨Z, hZ⟩ : ∃ Y, Y = (formK K x).isSome := ⟨_, rfl⟩
      have CR2 := Lib.hid (show Calls Tryd.prog 29 #[.agg #[.int .i64 kind, .slice A n c], .int .i64 x] wr.drew fun e v => e = .returned (.tuple #[.string ⟨Y.toArray⟩, .bool Z]) ∧ Below wr.heap.size wr v by rw [hY, hZ]; exact CR.out)
      rw [← hY] at Hs hxl
      clear hY hZ CR
      generalize putsK K (l.take k) = X at Hs hpl ⊢
      have hcat : (⟨X.toArray⟩ : ByteArray) ++ ⟨Y.toArray⟩ = ⟨(X ++ Y).toArray⟩ := ByteArray.mk_append_mk X Y
      have KC := Lib.hid (show ∀ u, Below wr.heap.size wr u → u.cell? ⟨w.heap.size, 0, none⟩ = some (.int .i64 kind) ∧ u.cell? ⟨w.heap.size, 1, none⟩ = some (.slice A n c) ∧ u.cell? (ad.add k) = some (.int .i64 x) from fun u hu => ⟨((HB.out.stay Hb.out).stay hu).cell 0, ((HB.out.stay Hb.out).stay hu).cell 1, (hu.cell (by rw [block_of_add]; exact hadl)).trans hcell⟩)
      have HbD := Lib.hid ((Below.refl wr.heap.size wr).drew)
      go_wp2_with fail
      go_region_held3 (fun u => u.cell? ⟨w.heap.size, 0, none⟩ = some (.int .i64 kind) ∧ u.cell? ⟨w.heap.size, 1, none⟩ = some (.slice A n c) ∧ u.cell? (ad.add k) = some (.int .i64 x)) (first | exact KC.out _ HbD.out | exact KC.out _ hbS) (first | (go_at_call 29; (with_reducible refine CR2.out.mono ?_); rintro e w5 ⟨rfl, hbS⟩))
      have HbS := Lib.hid (Hb.out.trans (hbS.mono Hb.out.size))
      clear hbS hcell
      go_wp2
      go_roundw
      case rel => exact ⟨k + 1, by omega, by go_num, by rw [Hs.out], HbS⟩
      case measure => simp [intOf]; omega
    · obtain rfl : k = nl := by omega
      have hki : ¬ (k : Int) < (k : Int) := by omega
      have He := Lib.hid (show l.take k = l from List.take_of_length_le (by rw [Hll.out]; omega))
      rw [He.out]
      go_wp2
      go_ret
      exact ⟨rfl, HL.out.trans (Hb.out.mono HL.out.size)⟩

set_option maxRecDepth 100000 in
set_option maxHeartbeats 4000000 in
theorem rlost_any (kind : Int) (A : Option Addr) (n c : Nat) (codes : List Int) (x p : Int) (w : World) (h : Reads w w.heap.size 1 A n (codes.map iv)) (hC : CkE kind codes 0) (hp2 : 2 ≤ p) (hp4 : p ≤ 4) :
    Calls Tryd.prog 108 #[.agg #[.int .i64 kind, .slice A n c], .int .i64 x, .int .i64 p] w fun e w' => e = .returned (.string ⟨(lostK (cdOf kind codes) x p).toArray⟩) ∧ Below w.heap.size w w' := by
  obtain ⟨K, hK⟩ : ∃ K, K = cdOf kind codes := ⟨_, rfl⟩
  have bn := below_new w (.cells #[.int .i64 kind, .slice A n c] 26)
  have HB := Lib.hid (Blk.new w 26 #[.int .i64 kind, .slice A n c])
  have HR := Lib.hid (h.stay bn)
  have HL := Lib.hid bn
  have HC := Lib.hid hC
  have CP := Lib.hid (show ∀ (y : Int) (u : World), Below (w.alloc (.cells #[.int .i64 kind, .slice A n c] 26)).heap.size (w.alloc (.cells #[.int .i64 kind, .slice A n c] 26)) u → Calls Tryd.prog 29 #[.agg #[.int .i64 kind, .slice A n c], .int .i64 y] u fun e v => e = .returned (formV (formK K y)) ∧ Below u.heap.size u v from fun y u hu =>
    (rput_any kind A n c codes 0 y u (HR.out.stay hu) hC).mono fun e v ⟨h1, h2⟩ => ⟨by rw [h1]; unfold puR; rw [if_pos rfl, ← hK], h2⟩)
  have CQ := Lib.hid (show ∀ (Al : Option Addr) (nl cl : Nat) (l : List Int) (u : World), Below (w.alloc (.cells #[.int .i64 kind, .slice A n c] 26)).heap.size (w.alloc (.cells #[.int .i64 kind, .slice A n c] 26)) u → Reads u u.heap.size 1 Al nl (l.map iv) → nl ≤ 100 → Calls Tryd.prog 109 #[.agg #[.int .i64 kind, .slice A n c], .slice Al nl cl] u fun e v => e = .returned (.string ⟨(putsK K l).toArray⟩) ∧ Below u.heap.size u v from fun Al nl cl l u hu hr hn => by
    rw [hK]; exact rputs_any kind A n c codes Al nl cl l u (HR.out.stay hu) hr hC hn)
  rw [← hK]
  clear bn h hC HR hK
  by_cases e3 : p = 3
  · subst e3
    rw [lostK_3]
    clear CP CQ
    go_enter Tryd.func108, Tryd.ntmps108
    go_wp2
    go_ret
    exact ⟨rfl, HL.out⟩
  by_cases e2 : p = 2
  · subst e2
    clear e3
    rw [lostK_2]
    have g0 := HB.out.cell 0
    have g1 := HB.out.cell 1
    go_enter Tryd.func108, Tryd.ntmps108
    go_wp2_with fail
    clear g0 g1
    obtain ⟨W, hW⟩ : ∃ W, W = w.alloc (.cells #[.int .i64 kind, .slice A n c] 26) := ⟨_, rfl⟩
    rw [← hW] at HB HL CP ⊢
    clear hW
    refine (CP.out 65533 W (Below.refl _ _)).mono ?_
    rintro r w1 ⟨rfl, hb1⟩
    have B1 := Lib.hid (HL.out.trans (hb1.mono HL.out.size))
    have HB1 := Lib.hid (HB.out.stay hb1)
    have Hb1 := Lib.hid hb1
    clear hb1
    cases hf : formK K 65533 with
    | some y =>
      have Hf := Lib.hid hf
      clear hf
      unfold formV
      simp only [Option.getD_some, Option.isSome_some]
      go_wp2
      go_ret
      exact ⟨by rw [Hf.out]; rfl, B1.out⟩
    | none =>
      have Hf := Lib.hid hf
      clear hf
      unfold formV
      simp only [Option.getD_none, Option.isSome_none]
      have g0 := HB1.out.cell 0
      have g1 := HB1.out.cell 1
      go_wp2_with fail
      clear g0 g1
      refine (CP.out 63 w1 Hb1.out).mono ?_
      rintro r w2 ⟨rfl, hb2⟩
      unfold formV
      obtain ⟨X, hX⟩ : ∃ X, X = (formK K 63).getD [] := ⟨_, rfl⟩
      obtain ⟨Y, hY⟩ : ∃ Y, Y = (formK K 63).isSome := ⟨_, rfl⟩
      rw [← hX, ← hY]
      have HX := Lib.hid hX
      clear hX hY
      go_wp2
      go_ret
      exact ⟨by rw [Hf.out, Option.getD_none, ← HX.out]; rfl, B1.out.trans (hb2.mono B1.out.size)⟩
  obtain rfl : p = 4 := by omega
  clear e2 e3
  rw [lostK_4, ← putsK_esc]
  go_enter Tryd.func108, Tryd.ntmps108
  go_wp2_with fail
  obtain ⟨W, hW⟩ : ∃ W, W = w.alloc (.cells #[.int .i64 kind, .slice A n c] 26) := ⟨_, rfl⟩
  rw [← hW] at HB HL CQ ⊢
  clear hW CP
  have HbD := Lib.hid ((Below.refl W.heap.size W).drew)
  have KC := Lib.hid (show ∀ u, Below W.heap.size W u → u.cell? ⟨w.heap.size, 0, none⟩ = some (.int .i64 kind) ∧ u.cell? ⟨w.heap.size, 1, none⟩ = some (.slice A n c) from fun u hu => ⟨(HB.out.stay hu).cell 0, (HB.out.stay hu).cell 1⟩)
  have CE := Lib.hid (show Calls Tryd.prog 110 #[.int .i64 x] W.drew fun e v => ∃ A' c', e = .returned (.slice A' (esc16 x).length c') ∧ Reads v v.heap.size 1 A' (esc16 x).length ((esc16 x).map iv) ∧ Below W.heap.size W v from
    (resc_any x W.drew).mono fun e v ⟨r, h1, h2, h3⟩ => by
      obtain ⟨A', c', rfl, _, hr⟩ := val_of_own h2
      exact ⟨A', c', h1, hr, (Below.refl W.heap.size W).drew.trans h3⟩)
  have hel := esc16_len x
  have Hel := Lib.hid (show (esc16 x).length ≤ 100 by omega)
  clear hel
  obtain ⟨l, hl⟩ : ∃ l, l = esc16 x := ⟨_, rfl⟩
  rw [← hl] at CE Hel
  have Hl := Lib.hid hl
  clear hl
  go_region_held3 (fun u => u.cell? ⟨w.heap.size, 0, none⟩ = some (.int .i64 kind) ∧ u.cell? ⟨w.heap.size, 1, none⟩ = some (.slice A n c)) (first | exact KC.out _ HbD.out | exact KC.out _ hbV | exact KC.out _ hbS) (first | (go_at_call 110; (with_reducible refine CE.out.mono ?_); rintro e w5 ⟨A', c', rfl, hr5, hbS⟩) | (go_at_call 109; (with_reducible refine (CQ.out _ _ _ l _ hbS hr5 Hel.out).mono ?_); rintro e w6 ⟨rfl, hb6⟩; have hbV := hbS.trans (hb6.mono hbS.size)))
  have HbV := Lib.hid hbV
  clear hbV hbS hb6 hr5
  go_wp2
  go_ret
  exact ⟨by rw [Hl.out]; rfl, HL.out.trans (HbV.out.mono HL.out.size)⟩
end Go.Proofs.YtbcbmmgfdobdiaaDoor
/- The reference's Encode of layer 7, the policies other than Fail. -/
namespace Go.Proofs.YtbcbmmgfdobdiaaDoor
open Go.RowKit

def RencRel (W : World) (L : Cd) (l : List Int) (p : Int) (o i : Value) (wr : World) : Prop :=
  ∃ (k : Nat) (out : List UInt8), k ≤ l.length ∧ i = .int .i64 (k : Int) ∧ o = .string ⟨out.toArray⟩ ∧ out.length ≤ 64 * k ∧ Hid (encK L p 0 l = pre8 out (encK L p k (l.drop k))) ∧ Hid (Below W.heap.size W wr)
theorem rencK_step {W w2 : World} {L : Cd} {l : List Int} {p : Int} {k : Nat} {out add : List UInt8} (hk : k < l.length) (hol : out.length ≤ 64 * k) (hal : add.length ≤ 64)
    (he : encK L p 0 l = pre8 out (encK L p k (l.drop k))) (hs : encK L p k (l.drop k) = pre8 add (encK L p (k + 1) (l.drop (k + 1))))
    (hb : Below W.heap.size W w2) : RencRel W L l p (.string ⟨(out ++ add).toArray⟩) (.int .i64 ((k : Int) + 1)) w2 :=
  ⟨k + 1, out ++ add, hk, by congr 1, rfl, by simp; omega, by show _ = _; rw [he, hs, pre8_pre8], hb⟩

set_option maxRecDepth 100000 in
set_option maxHeartbeats 4000000 in
theorem rencode_good (kind : Int) (A : Option Addr) (n c : Nat) (codes : List Int) (Al : Option Addr) (nl cl : Nat) (l : List Int) (p : Int) (w : World) (h : Reads w w.heap.size 1 A n (codes.map iv)) (hl : Reads w w.heap.size 1 Al nl (l.map iv)) (hC : CkE kind codes 0) (hp2 : 2 ≤ p) (hp4 : p ≤ 4) (hn : nl ≤ 1000000) :
    Calls Tryd.prog 103 #[.agg #[.int .i64 kind, .slice A n c], .slice Al nl cl, .int .i64 p] w fun e w' => e = .returned (.tuple #[.string ⟨(encF (cdOf kind codes) p l).toArray⟩, .agg #[.int .i64 0, .int .i64 0]]) ∧ Below w.heap.size w w' := by
  obtain ⟨K, hK⟩ : ∃ K, K = cdOf kind codes := ⟨_, rfl⟩
  rw [← hK]
  have HK := Lib.hid hK
  clear hK
  have Hll := Lib.hid (show l.length = nl from len_of hl)
  have hp1 : p ≠ 1 := by omega
  have hp1n : (p == 1) = false := by simp; omega
  have Hkn := Lib.hid (show knownB p = true by unfold knownB; simp; omega)
  have HEe := Lib.hid (encF_eq (L := K) hp1 l)
  obtain ⟨V, hV⟩ : ∃ V, V = w.alloc (.cells #[.int .i64 kind, .slice A n c] 26) := ⟨_, rfl⟩
  have hVs : V.heap.size = w.heap.size + 1 := by rw [hV]; simp
  have bV : Below w.heap.size w V := by rw [hV]; exact below_new _ _
  have hB : Blk V w.heap.size 26 #[.int .i64 kind, .slice A n c] := by rw [hV]; exact Blk.new _ _ _
  obtain ⟨W, hW⟩ : ∃ W, W = V.alloc (.cells #[.int .i64 0, .int .i64 0] 37) := ⟨_, rfl⟩
  have bW : Below V.heap.size V W := by rw [hW]; exact below_new _ _
  have hF : Blk W V.heap.size 37 #[.int .i64 0, .int .i64 0] := by rw [hW]; exact Blk.new _ _ _
  have HB := Lib.hid (hB.stay bW)
  have HR := Lib.hid ((h.stay bV).stay bW)
  have HX := Lib.hid ((hl.stay bV).stay bW)
  have HF := Lib.hid hF
  have HwW := Lib.hid (bV.trans (bW.mono bV.size))
  have HC := Lib.hid hC
  clear bV bW hB hF h hl hC
  have g0 := HB.out.cell 0
  have g1 := HB.out.cell 1
  rw [hW, hV] at g0 g1
  go_enter Tryd.func103, Tryd.ntmps103
  go_wp2_with fail
  clear g0 g1
  rw [← hV, ← hW]
  clear hW hV
  refine (rcheck_any kind A n c codes 0 W HR.out HC.out).mono ?_
  rintro x w1 ⟨rfl, hb1⟩
  replace HB := Lib.hid (HB.out.stay hb1)
  replace HR := Lib.hid (HR.out.stay hb1)
  replace HX := Lib.hid (HX.out.stay hb1)
  replace HF := Lib.hid (HF.out.stay hb1)
  replace HwW := Lib.hid (HwW.out.trans (hb1.mono HwW.out.size))
  clear hb1
  go_wp2_with fail
  refine (rknown_any p w1).mono ?_
  rintro x w2 ⟨rfl, rfl⟩
  rw [Hkn.out]
  go_wp2_with fail
  go_loopw [8, 9] (fun o i wr => RencRel w1 K l p o i wr) (fun _ i _ => nl - (intOf i).toNat)
  case atStart => exact ⟨0, [], Nat.zero_le _, rfl, rfl, by simp, by show _ = _; rw [pre8_nil]; rfl, Lib.hid (Below.refl _ _)⟩
  case round =>
    obtain ⟨k, out, hk, rfl, rfl, hol, Hee, Hb⟩ := hrel
    rw [Hll.out] at hk
    by_cases hlt : k < nl
    · obtain ⟨ad, u, rfl, hadl, hu, hcell⟩ := (HX.out.stay Hb.out).at_ hlt
      obtain ⟨x, hx, rfl⟩ := iv_at hu
      have Hdr := Lib.hid (drop_at hx)
      have hkl : k < l.length := by rw [Hll.out]; exact hlt
      have hki : (k : Int) < (nl : Int) := by omega
      clear hu hx
      obtain ⟨ff, hff⟩ : ∃ f, f = formK K x := ⟨_, rfl⟩
      have CR := Lib.hid (show Calls Tryd.prog 29 #[.agg #[.int .i64 kind, .slice A n c], .int .i64 x] wr.drew fun e v => e = .returned (.tuple #[.string ⟨(ff.getD []).toArray⟩, .bool ff.isSome]) ∧ Below wr.heap.size wr v from
        (rput_any kind A n c codes 0 x wr.drew (HR.out.stay Hb.out).drew HC.out).mono fun e v ⟨h1, h2⟩ => ⟨by rw [h1]; unfold puR; rw [if_pos rfl, ← HK.out, ← hff]; rfl, (Below.refl wr.heap.size wr).drew.trans h2⟩)
      have KC := Lib.hid (show ∀ u, Below wr.heap.size wr u → u.cell? ⟨w.heap.size, 0, none⟩ = some (.int .i64 kind) ∧ u.cell? ⟨w.heap.size, 1, none⟩ = some (.slice A n c) ∧ u.cell? (ad.add k) = some (.int .i64 x) from fun u hu => ⟨((HB.out.stay Hb.out).stay hu).cell 0, ((HB.out.stay Hb.out).stay hu).cell 1, (hu.cell (by rw [block_of_add]; exact hadl)).trans hcell⟩)
      have HbD := Lib.hid ((Below.refl wr.heap.size wr).drew)
      clear hcell
      cases ff with
      | some Y =>
        have hf := hff.symm
        have hYl := (formK_ne hf).2
        have Hst := Lib.hid (show encK K p k (l.drop k) = pre8 Y (encK K p (k + 1) (l.drop (k + 1))) by rw [Hdr.out, encK_some hf])
        have Hnx := Lib.hid (fun (v : World) hv => rencK_step (W := w1) (w2 := v) hkl hol (show Y.length ≤ 64 by omega) Hee.out Hst.out hv)
        simp only [Option.getD_some, Option.isSome_some] at CR
        have hcat : (⟨out.toArray⟩ : ByteArray) ++ ⟨Y.toArray⟩ = ⟨(out ++ Y).toArray⟩ := ByteArray.mk_append_mk out Y
        clear hf hff
        go_wp2_with fail
        go_region_held3 (fun u => u.cell? ⟨w.heap.size, 0, none⟩ = some (.int .i64 kind) ∧ u.cell? ⟨w.heap.size, 1, none⟩ = some (.slice A n c) ∧ u.cell? (ad.add k) = some (.int .i64 x)) (first | exact KC.out _ HbD.out | exact KC.out _ hbS) (first | (go_at_call 29; (with_reducible refine CR.out.mono ?_); rintro e w5 ⟨rfl, hbS⟩))
        have HbS := Lib.hid (Hb.out.trans (hbS.mono Hb.out.size))
        clear hbS
        go_wp2
        go_roundw
        case rel => exact Hnx.out _ HbS.out
        case measure => simp [intOf]; omega
      | none =>
        have Hst := Lib.hid (show encK K p k (l.drop k) = pre8 (lostK K x p) (encK K p (k + 1) (l.drop (k + 1))) by rw [Hdr.out, encK_lost hff.symm hp1])
        have hYl := lostK_len K x p
        simp only [Option.getD_none, Option.isSome_none] at CR
        clear hff
        have CL := Lib.hid (show ∀ u, Below wr.heap.size wr u → Calls Tryd.prog 108 #[.agg #[.int .i64 kind, .slice A n c], .int .i64 x, .int .i64 p] u fun e v => e = .returned (.string ⟨(lostK K x p).toArray⟩) ∧ Below wr.heap.size wr v from fun u hu =>
          (rlost_any kind A n c codes x p u ((HR.out.stay Hb.out).stay hu) HC.out hp2 hp4).mono fun e v ⟨h1, h2⟩ => ⟨by rw [h1, ← HK.out], hu.trans (h2.mono hu.size)⟩)
        generalize lostK K x p = Y at Hst hYl CL
        have Hnx := Lib.hid (fun (v : World) hv => rencK_step (W := w1) (w2 := v) hkl hol hYl Hee.out Hst.out hv)
        have hcat : (⟨out.toArray⟩ : ByteArray) ++ ⟨Y.toArray⟩ = ⟨(out ++ Y).toArray⟩ := ByteArray.mk_append_mk out Y
        have hA : ∀ u : World, (Op.stringOp .add ⟨out.toArray⟩ ⟨Y.toArray⟩).run Tryd.prog u = .ok (.string ⟨(out ++ Y).toArray⟩) u := fun u => by rw [run_string_add_sum u _ _ (by simp [ByteArray.size]; omega), hcat]
        go_wp2_with fail
        go_region_held3 (fun u => u.cell? ⟨w.heap.size, 0, none⟩ = some (.int .i64 kind) ∧ u.cell? ⟨w.heap.size, 1, none⟩ = some (.slice A n c) ∧ u.cell? (ad.add k) = some (.int .i64 x)) (first | exact KC.out _ HbD.out | exact KC.out _ hbS) (first | (go_at_call 29; (with_reducible refine CR.out.mono ?_); rintro e w5 ⟨rfl, hbS⟩))
        have HbE := Lib.hid hbS.drew
        clear hbS
        go_wp2_with fail
        go_region_held3 (fun u => u.cell? ⟨w.heap.size, 0, none⟩ = some (.int .i64 kind) ∧ u.cell? ⟨w.heap.size, 1, none⟩ = some (.slice A n c) ∧ u.cell? (ad.add k) = some (.int .i64 x)) (first | exact KC.out _ HbE.out | exact KC.out _ hbS) (first | (go_at_call 108; (with_reducible refine (CL.out _ HbE.out).mono ?_); rintro e w6 ⟨rfl, hbS⟩))
        have HbS := Lib.hid (Hb.out.trans (hbS.mono Hb.out.size))
        clear hbS
        go_wp2
        go_roundw
        case rel => exact Hnx.out _ HbS.out
        case measure => simp [intOf]; omega
    · have Hok := Lib.hid (show encF K p l = out by
        have h1 := HEe.out
        rw [Hee.out, List.drop_of_length_le (by rw [Hll.out]; omega), encK] at h1
        simp [pre8] at h1; exact h1.symm)
      have hki : ¬ (k : Int) < (nl : Int) := by omega
      have hF2 := HF.out.stay Hb.out
      rw [hVs] at hF2
      have Hwr := Lib.hid (HwW.out.trans (Hb.out.mono HwW.out.size))
      have z0 := hF2.cell 0
      have z1 := hF2.cell 1
      have f0 := hF2.frozen 0
      have f1 := hF2.frozen 1
      have hF3 := (hF2.set_ 0 (.int .i64 0)).set_ 1 (.int .i64 0)
      have bF := (Hwr.out.setCell (p := ⟨w.heap.size + 1, 0, none⟩) (by simp) (.int .i64 0)).setCell (p := ⟨w.heap.size + 1, 1, none⟩) (by simp) (.int .i64 0)
      have D := Lib.hid (And.intro (hF3.cell 0) (hF3.cell 1))
      have BF := Lib.hid bF
      clear hF3 bF
      go_wp2
      obtain ⟨d0, d1⟩ := D.out
      have bF := BF.out
      clear D BF z0 z1 f0 f1 hF2
      generalize World.setCell (World.setCell _ ⟨w.heap.size + 1, 0, none⟩ (.int .i64 0)) ⟨w.heap.size + 1, 1, none⟩ (.int .i64 0) = V at d0 d1 bF ⊢
      exact bodyPost_ret (v := .tuple #[.string ⟨out.toArray⟩, .agg #[.int .i64 0, .int .i64 0]]) (by simp [results, Tryd.results103, go_sem] at d0 d1 ⊢; simp [d0, d1]) rfl ⟨by rw [Hok.out], bF⟩
end Go.Proofs.YtbcbmmgfdobdiaaDoor
/- The reference's Convert of layer 7, every policy, encodings without an error. -/
namespace Go.Proofs.YtbcbmmgfdobdiaaDoor
open Go.RowKit

set_option maxRecDepth 100000 in
set_option maxHeartbeats 4000000 in
theorem rconvF_good (k1 : Int) (A1 : Option Addr) (n1 c1 : Nat) (q1 : List Int) (k2 : Int) (A2 : Option Addr) (n2 c2 : Nat) (q2 : List Int) (s : List UInt8) (w : World) (h1 : Reads w w.heap.size 1 A1 n1 (q1.map iv)) (h2 : Reads w w.heap.size 1 A2 n2 (q2.map iv)) (hC1 : CkE k1 q1 0) (hC2 : CkE k2 q2 0) (hs : s.length ≤ 100000) :
    Calls Tryd.prog 83 #[.agg #[.int .i64 k1, .slice A1 n1 c1], .agg #[.int .i64 k2, .slice A2 n2 c2], .string ⟨s.toArray⟩, .int .i64 1] w fun x w' => x = .returned (outT (strictR (cdOf k1 q1) (cdOf k2 q2) s)) ∧ Below w.heap.size w w' := by
  have hb0 : Below w.heap.size w (((w.alloc (.cells #[.int .i64 k1, .slice A1 n1 c1] 26)).alloc (.cells #[.int .i64 k2, .slice A2 n2 c2] 26)).alloc (.cells #[.int .i64 0, .int .i64 0] 37)) := (((Below.refl _ _).alloc (Nat.le_refl _) _).alloc (by simp) _).alloc (by simp; omega) _
  have p1 : Blk (((w.alloc (.cells #[.int .i64 k1, .slice A1 n1 c1] 26)).alloc (.cells #[.int .i64 k2, .slice A2 n2 c2] 26)).alloc (.cells #[.int .i64 0, .int .i64 0] 37)) w.heap.size 26 #[.int .i64 k1, .slice A1 n1 c1] := ((Blk.new w _ _).alloc _).alloc _
  have p2 : Blk (((w.alloc (.cells #[.int .i64 k1, .slice A1 n1 c1] 26)).alloc (.cells #[.int .i64 k2, .slice A2 n2 c2] 26)).alloc (.cells #[.int .i64 0, .int .i64 0] 37)) (w.heap.size + 1) 26 #[.int .i64 k2, .slice A2 n2 c2] := by
    have := (Blk.new (w.alloc (.cells #[.int .i64 k1, .slice A1 n1 c1] 26)) 26 #[.int .i64 k2, .slice A2 n2 c2]).alloc (.cells #[.int .i64 0, .int .i64 0] 37)
    simpa using this
  have p3 : Blk (((w.alloc (.cells #[.int .i64 k1, .slice A1 n1 c1] 26)).alloc (.cells #[.int .i64 k2, .slice A2 n2 c2] 26)).alloc (.cells #[.int .i64 0, .int .i64 0] 37)) (w.heap.size + 1 + 1) 37 #[.int .i64 0, .int .i64 0] := by
    have := Blk.new ((w.alloc (.cells #[.int .i64 k1, .slice A1 n1 c1] 26)).alloc (.cells #[.int .i64 k2, .slice A2 n2 c2] 26)) 37 #[.int .i64 0, .int .i64 0]
    simpa using this
  have H1 := Lib.hid (h1.stay hb0)
  have H2 := Lib.hid (h2.stay hb0)
  have HC1 := Lib.hid hC1
  have HC2 := Lib.hid hC2
  have g0 := p1.cell 0
  have g1 := p1.cell 1
  have g2 := p2.cell 0
  have g3 := p2.cell 1
  have P1 := Lib.hid p1
  have P2 := Lib.hid p2
  have P3 := Lib.hid p3
  have B0 := Lib.hid hb0
  clear hb0 p1 p2 p3 h1 h2 hC1 hC2
  go_enter Tryd.func83, Tryd.ntmps83
  go_wp2_with fail
  clear g0 g1 g2 g3
  obtain ⟨W, hW⟩ : ∃ W, W = (((w.alloc (.cells #[.int .i64 k1, .slice A1 n1 c1] 26)).alloc (.cells #[.int .i64 k2, .slice A2 n2 c2] 26)).alloc (.cells #[.int .i64 0, .int .i64 0] 37)) := ⟨_, rfl⟩
  rw [← hW] at H1 H2 P1 P2 P3 B0 ⊢
  clear hW
  refine (rcheck_any k1 A1 n1 c1 q1 0 W H1.out HC1.out).mono ?_
  rintro x w1 ⟨rfl, hb1⟩
  have G1 := Lib.hid (H1.out.stay hb1)
  have Q1 := Lib.hid (P1.out.stay hb1)
  have Q2 := Lib.hid (P2.out.stay hb1)
  have Q3 := Lib.hid (P3.out.stay hb1)
  have B1 := Lib.hid (B0.out.trans (hb1.mono B0.out.size))
  have G2 := Lib.hid (H2.out.stay hb1)
  clear P1 P2 P3 B0 H2
  have P1 := Q1
  have P2 := Q2
  have P3 := Q3
  have B0 := B1
  have H2 := G2
  clear Q1 Q2 Q3 B1 G2
  clear H1
  have g2 := P2.out.cell 0
  have g3 := P2.out.cell 1
  have hsz : w.heap.size + 1 + 1 < w1.heap.size := P3.out.lt
  go_wp2_with fail
  clear g2 g3
  refine (rcheck_any k2 A2 n2 c2 q2 0 w1 H2.out HC2.out).mono ?_
  rintro x w2 ⟨rfl, hb2⟩
  have H1 := Lib.hid (G1.out.stay hb2)
  have Q1 := Lib.hid (P1.out.stay hb2)
  have Q2 := Lib.hid (P2.out.stay hb2)
  have Q3 := Lib.hid (P3.out.stay hb2)
  have B1 := Lib.hid (B0.out.trans (hb2.mono B0.out.size))
  have G2 := Lib.hid (H2.out.stay hb2)
  clear P1 P2 P3 B0 H2
  have P1 := Q1
  have P2 := Q2
  have P3 := Q3
  have B0 := B1
  have H2 := G2
  clear Q1 Q2 Q3 B1 G2
  clear G1
  have g0 := P1.out.cell 0
  have g1 := P1.out.cell 1
  have g2 := P2.out.cell 0
  have g3 := P2.out.cell 1
  go_wp2_with fail
  clear g0 g1 g2 g3
  refine (rstrict_any k1 A1 n1 c1 q1 k2 A2 n2 c2 q2 s w2 H1.out H2.out HC1.out HC2.out hs).mono ?_
  rintro x w3 ⟨rfl, hb3⟩
  have hF3 := P3.out.stay hb3
  have b3 := B0.out.trans (hb3.mono B0.out.size)
  clear hb3 P1 P2 P3 B0 H1 H2
  cases hr : strictR (cdOf k1 q1) (cdOf k2 q2) s with
  | ok o =>
    have Hr := Lib.hid hr
    clear hr
    unfold outT
    simp only
    have hF := hF3
    have z0 := hF.cell 0
    have z1 := hF.cell 1
    have f0 := hF.frozen 0
    have f1 := hF.frozen 1
    have hF2 := (hF.set_ 0 (.int .i64 0)).set_ 1 (.int .i64 0)
    have bF := (b3.setCell (p := ⟨w.heap.size + 1 + 1, 0, none⟩) (by simp; omega) (.int .i64 0)).setCell (p := ⟨w.heap.size + 1 + 1, 1, none⟩) (by simp; omega) (.int .i64 0)
    have D := Lib.hid (And.intro (hF2.cell 0) (hF2.cell 1))
    have BF := Lib.hid bF
    clear bF hF2
    go_wp2
    obtain ⟨d0, d1⟩ := D.out
    have bF := BF.out
    clear D BF z0 z1 f0 f1 hF
    generalize World.setCell (World.setCell _ ⟨w.heap.size + 1 + 1, 0, none⟩ (.int .i64 0)) ⟨w.heap.size + 1 + 1, 1, none⟩ (.int .i64 0) = V at d0 d1 bF ⊢
    exact bodyPost_ret (v := .tuple #[.string ⟨o.toArray⟩, .agg #[.int .i64 0, .int .i64 0]]) (by simp [results, Tryd.results83, go_sem] at d0 d1 ⊢; simp [d0, d1]) rfl ⟨by rw [Hr.out]; rfl, bF⟩
  | error p =>
    obtain ⟨e, i⟩ := p
    have Hr := Lib.hid hr
    clear hr
    unfold outT
    simp only
    have hF := hF3
    have z0 := hF.cell 0
    have z1 := hF.cell 1
    have f0 := hF.frozen 0
    have f1 := hF.frozen 1
    have hF2 := (hF.set_ 0 (.int .i64 e)).set_ 1 (.int .i64 (i : Int))
    have bF := (b3.setCell (p := ⟨w.heap.size + 1 + 1, 0, none⟩) (by simp; omega) (.int .i64 e)).setCell (p := ⟨w.heap.size + 1 + 1, 1, none⟩) (by simp; omega) (.int .i64 (i : Int))
    have D := Lib.hid (And.intro (hF2.cell 0) (hF2.cell 1))
    have BF := Lib.hid bF
    clear bF hF2
    go_wp2
    obtain ⟨d0, d1⟩ := D.out
    have bF := BF.out
    clear D BF z0 z1 f0 f1 hF
    generalize World.setCell (World.setCell _ ⟨w.heap.size + 1 + 1, 0, none⟩ (.int .i64 e)) ⟨w.heap.size + 1 + 1, 1, none⟩ (.int .i64 (i : Int)) = V at d0 d1 bF ⊢
    exact bodyPost_ret (v := .tuple #[.string ⟨([] : List UInt8).toArray⟩, .agg #[.int .i64 e, .int .i64 (i : Int)]]) (by simp [results, Tryd.results83, go_sem] at d0 d1 ⊢; simp [d0, d1]) rfl ⟨by rw [Hr.out]; rfl, bF⟩

set_option maxRecDepth 100000 in
set_option maxHeartbeats 4000000 in
theorem rconvP_good (k1 : Int) (A1 : Option Addr) (n1 c1 : Nat) (q1 : List Int) (k2 : Int) (A2 : Option Addr) (n2 c2 : Nat) (q2 : List Int) (s : List UInt8) (p : Int) (w : World) (h1 : Reads w w.heap.size 1 A1 n1 (q1.map iv)) (h2 : Reads w w.heap.size 1 A2 n2 (q2.map iv)) (hC1 : CkE k1 q1 0) (hC2 : CkE k2 q2 0) (hp2 : 2 ≤ p) (hp4 : p ≤ 4) (hs : s.length ≤ 100000) :
    Calls Tryd.prog 83 #[.agg #[.int .i64 k1, .slice A1 n1 c1], .agg #[.int .i64 k2, .slice A2 n2 c2], .string ⟨s.toArray⟩, .int .i64 p] w fun x w' => x = .returned (.tuple #[.string ⟨(encF (cdOf k2 q2) p (decF (cdOf k1 q1) p s)).toArray⟩, .agg #[.int .i64 0, .int .i64 0]]) ∧ Below w.heap.size w w' := by
  have hb0 : Below w.heap.size w (((w.alloc (.cells #[.int .i64 k1, .slice A1 n1 c1] 26)).alloc (.cells #[.int .i64 k2, .slice A2 n2 c2] 26)).alloc (.cells #[.int .i64 0, .int .i64 0] 37)) := (((Below.refl _ _).alloc (Nat.le_refl _) _).alloc (by simp) _).alloc (by simp; omega) _
  have p1 : Blk (((w.alloc (.cells #[.int .i64 k1, .slice A1 n1 c1] 26)).alloc (.cells #[.int .i64 k2, .slice A2 n2 c2] 26)).alloc (.cells #[.int .i64 0, .int .i64 0] 37)) w.heap.size 26 #[.int .i64 k1, .slice A1 n1 c1] := ((Blk.new w _ _).alloc _).alloc _
  have p2 : Blk (((w.alloc (.cells #[.int .i64 k1, .slice A1 n1 c1] 26)).alloc (.cells #[.int .i64 k2, .slice A2 n2 c2] 26)).alloc (.cells #[.int .i64 0, .int .i64 0] 37)) (w.heap.size + 1) 26 #[.int .i64 k2, .slice A2 n2 c2] := by
    have := (Blk.new (w.alloc (.cells #[.int .i64 k1, .slice A1 n1 c1] 26)) 26 #[.int .i64 k2, .slice A2 n2 c2]).alloc (.cells #[.int .i64 0, .int .i64 0] 37)
    simpa using this
  have p3 : Blk (((w.alloc (.cells #[.int .i64 k1, .slice A1 n1 c1] 26)).alloc (.cells #[.int .i64 k2, .slice A2 n2 c2] 26)).alloc (.cells #[.int .i64 0, .int .i64 0] 37)) (w.heap.size + 1 + 1) 37 #[.int .i64 0, .int .i64 0] := by
    have := Blk.new ((w.alloc (.cells #[.int .i64 k1, .slice A1 n1 c1] 26)).alloc (.cells #[.int .i64 k2, .slice A2 n2 c2] 26)) 37 #[.int .i64 0, .int .i64 0]
    simpa using this
  have H1 := Lib.hid (h1.stay hb0)
  have H2 := Lib.hid (h2.stay hb0)
  have HC1 := Lib.hid hC1
  have HC2 := Lib.hid hC2
  have g0 := p1.cell 0
  have g1 := p1.cell 1
  have g2 := p2.cell 0
  have g3 := p2.cell 1
  have P1 := Lib.hid p1
  have P2 := Lib.hid p2
  have P3 := Lib.hid p3
  have B0 := Lib.hid hb0
  have hp1n : (p == 1) = false := by simp; omega
  have Hdl := Lib.hid (decK_len (cdOf k1 q1) p s.length 0 s _ (Nat.le_refl _) (decF_eq (by omega) s))
  clear hb0 p1 p2 p3 h1 h2 hC1 hC2
  go_enter Tryd.func83, Tryd.ntmps83
  go_wp2_with fail
  clear g0 g1 g2 g3
  obtain ⟨W, hW⟩ : ∃ W, W = (((w.alloc (.cells #[.int .i64 k1, .slice A1 n1 c1] 26)).alloc (.cells #[.int .i64 k2, .slice A2 n2 c2] 26)).alloc (.cells #[.int .i64 0, .int .i64 0] 37)) := ⟨_, rfl⟩
  rw [← hW] at H1 H2 P1 P2 P3 B0 ⊢
  clear hW
  refine (rcheck_any k1 A1 n1 c1 q1 0 W H1.out HC1.out).mono ?_
  rintro x w1 ⟨rfl, hb1⟩
  have G1 := Lib.hid (H1.out.stay hb1)
  have Q1 := Lib.hid (P1.out.stay hb1)
  have Q2 := Lib.hid (P2.out.stay hb1)
  have Q3 := Lib.hid (P3.out.stay hb1)
  have B1 := Lib.hid (B0.out.trans (hb1.mono B0.out.size))
  have G2 := Lib.hid (H2.out.stay hb1)
  clear P1 P2 P3 B0 H2
  have P1 := Q1
  have P2 := Q2
  have P3 := Q3
  have B0 := B1
  have H2 := G2
  clear Q1 Q2 Q3 B1 G2
  clear H1
  have g2 := P2.out.cell 0
  have g3 := P2.out.cell 1
  have hsz : w.heap.size + 1 + 1 < w1.heap.size := P3.out.lt
  go_wp2_with fail
  clear g2 g3
  refine (rcheck_any k2 A2 n2 c2 q2 0 w1 H2.out HC2.out).mono ?_
  rintro x w2 ⟨rfl, hb2⟩
  have H1 := Lib.hid (G1.out.stay hb2)
  have Q1 := Lib.hid (P1.out.stay hb2)
  have Q2 := Lib.hid (P2.out.stay hb2)
  have Q3 := Lib.hid (P3.out.stay hb2)
  have B1 := Lib.hid (B0.out.trans (hb2.mono B0.out.size))
  have G2 := Lib.hid (H2.out.stay hb2)
  clear P1 P2 P3 B0 H2
  have P1 := Q1
  have P2 := Q2
  have P3 := Q3
  have B0 := B1
  have H2 := G2
  clear Q1 Q2 Q3 B1 G2
  clear G1
  have g0 := P1.out.cell 0
  have g1 := P1.out.cell 1
  have g2 := P2.out.cell 0
  have g3 := P2.out.cell 1
  go_wp2_with fail
  clear g0 g1 g2 g3
  refine (rdecode_good k1 A1 n1 c1 q1 s p w2 H1.out HC1.out hp2 hp4 hs).mono ?_
  rintro x w3 ⟨r, rfl, ho3, hb3⟩
  have Q1 := Lib.hid (P1.out.stay hb3)
  have Q2 := Lib.hid (P2.out.stay hb3)
  have Q3 := Lib.hid (P3.out.stay hb3)
  have B1 := Lib.hid (B0.out.trans (hb3.mono B0.out.size))
  have G2 := Lib.hid (H2.out.stay hb3)
  clear P1 P2 P3 B0 H2
  have P1 := Q1
  have P2 := Q2
  have P3 := Q3
  have B0 := B1
  have H2 := G2
  clear Q1 Q2 Q3 B1 G2
  obtain ⟨A3, c3, rfl, _, hr3⟩ := val_of_own ho3
  have bn := below_new w3 (.cells #[.int .i64 0, .int .i64 0] 37)
  have R3 := Lib.hid (hr3.stay bn)
  have FN := Lib.hid (Blk.new w3 37 #[.int .i64 0, .int .i64 0])
  have Q1 := Lib.hid (P1.out.stay bn)
  have Q2 := Lib.hid (P2.out.stay bn)
  have Q3 := Lib.hid (P3.out.stay bn)
  have B1 := Lib.hid (B0.out.trans (bn.mono B0.out.size))
  have G2 := Lib.hid (H2.out.stay bn)
  clear P1 P2 P3 B0 H2
  have P1 := Q1
  have P2 := Q2
  have P3 := Q3
  have B0 := B1
  have H2 := G2
  clear Q1 Q2 Q3 B1 G2
  clear hr3 ho3 bn H1
  have g0 := P2.out.cell 0
  have g1 := P2.out.cell 1
  have e0 := FN.out.cell 0
  have e1 := FN.out.cell 1
  go_wp2_with fail
  clear g0 g1 e0 e1
  obtain ⟨W4, hW4⟩ : ∃ W, W = w3.alloc (.cells #[.int .i64 0, .int .i64 0] 37) := ⟨_, rfl⟩
  rw [← hW4] at H2 P1 P2 P3 B0 R3 ⊢
  clear hW4
  refine (rencode_good k2 A2 n2 c2 q2 A3 _ c3 (decF (cdOf k1 q1) p s) p W4 H2.out R3.out HC2.out hp2 hp4 (by have := Hdl.out; omega)).mono ?_
  rintro x w5 ⟨rfl, hb5⟩
  have hF3 := P3.out.stay hb5
  have b3 := B0.out.trans (hb5.mono B0.out.size)
  clear hb5 P1 P2 P3 B0 H2
  obtain ⟨o, ho⟩ : ∃ o, o = encF (cdOf k2 q2) p (decF (cdOf k1 q1) p s) := ⟨_, rfl⟩
  rw [← ho]
  have Ho := Lib.hid ho
  clear ho
  have hF := hF3
  have z0 := hF.cell 0
  have z1 := hF.cell 1
  have f0 := hF.frozen 0
  have f1 := hF.frozen 1
  have hF2 := (hF.set_ 0 (.int .i64 0)).set_ 1 (.int .i64 0)
  have bF := (b3.setCell (p := ⟨w.heap.size + 1 + 1, 0, none⟩) (by simp; omega) (.int .i64 0)).setCell (p := ⟨w.heap.size + 1 + 1, 1, none⟩) (by simp; omega) (.int .i64 0)
  have D := Lib.hid (And.intro (hF2.cell 0) (hF2.cell 1))
  have BF := Lib.hid bF
  clear bF hF2
  go_wp2
  obtain ⟨d0, d1⟩ := D.out
  have bF := BF.out
  clear D BF z0 z1 f0 f1 hF
  generalize World.setCell (World.setCell _ ⟨w.heap.size + 1 + 1, 0, none⟩ (.int .i64 0)) ⟨w.heap.size + 1 + 1, 1, none⟩ (.int .i64 0) = V at d0 d1 bF ⊢
  exact bodyPost_ret (v := .tuple #[.string ⟨o.toArray⟩, .agg #[.int .i64 0, .int .i64 0]]) (by simp [results, Tryd.results83, go_sem] at d0 d1 ⊢; simp [d0, d1]) rfl ⟨by rw [← Ho.out], bF⟩

theorem rconvK_any (k1 : Int) (A1 : Option Addr) (n1 c1 : Nat) (q1 : List Int) (k2 : Int) (A2 : Option Addr) (n2 c2 : Nat) (q2 : List Int) (s : List UInt8) (p : Int) (w : World) (h1 : Reads w w.heap.size 1 A1 n1 (q1.map iv)) (h2 : Reads w w.heap.size 1 A2 n2 (q2.map iv)) (hC1 : CkE k1 q1 0) (hC2 : CkE k2 q2 0) (hp1 : 1 ≤ p) (hp4 : p ≤ 4) (hs : s.length ≤ 100000) :
    Calls Tryd.prog 83 #[.agg #[.int .i64 k1, .slice A1 n1 c1], .agg #[.int .i64 k2, .slice A2 n2 c2], .string ⟨s.toArray⟩, .int .i64 p] w fun x w' => x = .returned (outT (convK (cdOf k1 q1) (cdOf k2 q2) p s)) ∧ Below w.heap.size w w' := by
  by_cases hp : p = 1
  · subst hp
    rw [convK_strict]
    exact rconvF_good k1 A1 n1 c1 q1 k2 A2 n2 c2 q2 s w h1 h2 hC1 hC2 hs
  · rw [convK, if_neg hp]
    exact rconvP_good k1 A1 n1 c1 q1 k2 A2 n2 c2 q2 s p w h1 h2 hC1 hC2 (by omega) hp4 hs
end Go.Proofs.YtbcbmmgfdobdiaaDoor
/- The reference's stays of layer 8. -/
namespace Go.Proofs.YtbcbmmgfdobdiaaDoor
open Go.RowKit

theorem ends_at {k : Nat} (hk : k < 7) : ∃ u, ends7[k]? = some u ∧ u.length = 3 ∧ (#[.string ⟨#[0, 0, 0]⟩, .string ⟨#[128, 128, 128]⟩, .string ⟨#[144, 128, 128]⟩, .string ⟨#[160, 128, 128]⟩, .string ⟨#[220, 0, 0]⟩, .string ⟨#[0, 220, 0]⟩, .string ⟨#[220, 220, 220]⟩] : Array Value)[k]? = some (.string ⟨u.toArray⟩) := by
  rcases k with _ | _ | _ | _ | _ | _ | _ | k
  all_goals first | exact ⟨_, rfl, rfl, rfl⟩ | omega
theorem ends_all {P : List UInt8 → Prop} {k : Nat} (hk : 7 ≤ k) (h : ∀ u ∈ ends7.take k, P u) : ∀ u ∈ ends7, P u := by
  rw [List.take_of_length_le (by simpa [ends7] using hk)] at h; exact h
theorem ends_succ {P : List UInt8 → Prop} {k : Nat} {x : List UInt8} (hx : ends7[k]? = some x) (h : ∀ u ∈ ends7.take k, P u) (h2 : P x) : ∀ u ∈ ends7.take (k + 1), P u := by
  obtain ⟨hk, he⟩ := List.getElem?_eq_some_iff.1 hx
  rw [List.take_succ_eq_append_getElem hk, he]
  intro u hu
  rcases List.mem_append.1 hu with hu | hu
  · exact h u hu
  · simp at hu; subst hu; exact h2
set_option maxRecDepth 100000 in
set_option maxHeartbeats 4000000 in
theorem rstays_any (kind : Int) (A : Option Addr) (n c : Nat) (codes : List Int) (s : List UInt8) (w : World) (h : Reads w w.heap.size 1 A n (codes.map iv)) (hC : CkE kind codes 0) (hs : s.length ≤ 100000) (hne : s ≠ []) :
    Calls Tryd.prog 84 #[.agg #[.int .i64 kind, .slice A n c], .string ⟨s.toArray⟩] w fun e w' => e = .returned (.bool (goesK (cdOf kind codes) s)) ∧ Below w.heap.size w w' := by
  have bn := below_new w (.cells #[.int .i64 kind, .slice A n c] 26)
  have HB := Lib.hid (Blk.new w 26 #[.int .i64 kind, .slice A n c])
  have HR := Lib.hid (h.stay bn)
  have HL := Lib.hid bn
  have HC := Lib.hid hC
  clear bn h hC
  by_cases hk4 : kind = 4
  · subst hk4
    have Hg := Lib.hid (show goesK (cdOf 4 codes) s = true by
      have : cdOf 4 codes = .one codes := rfl
      rw [this]; unfold goesK unfK; simp)
    have g0 := HB.out.cell 0
    have g1 := HB.out.cell 1
    go_enter Tryd.func84, Tryd.ntmps84
    go_wp2
    rw [Hg.out]
    go_ret
    exact ⟨rfl, HL.out⟩
  obtain ⟨K, hK⟩ : ∃ K, K = cdOf kind codes := ⟨_, rfl⟩
  rw [← hK]
  have HK := Lib.hid hK
  clear hK
  have g0 := HB.out.cell 0
  have g1 := HB.out.cell 1
  have hk4n : (kind == 4) = false := by simpa using hk4
  go_enter Tryd.func84, Tryd.ntmps84
  go_wp2_with fail
  clear g0 g1
  obtain ⟨W, hW⟩ : ∃ W, W = w.alloc (.cells #[.int .i64 kind, .slice A n c] 26) := ⟨_, rfl⟩
  rw [← hW] at HB HR HL ⊢
  clear hW
  obtain ⟨⟨z, m, ok⟩, hst⟩ : ∃ x, stepK K s = x := ⟨_, rfl⟩
  have Hst := Lib.hid hst
  clear hst
  have CS := Lib.hid (show ∀ (t : List UInt8) (u : World), t.length ≤ 1000000 → Below W.heap.size W u → Calls Tryd.prog 26 #[.agg #[.int .i64 kind, .slice A n c], .string ⟨t.toArray⟩] u fun e v => e = .returned (trip64 (stepK K t)) ∧ Below u.heap.size u v from fun t u ht hu =>
    (rstep_any kind A n c codes 0 t u (HR.out.stay hu) HC.out ht).mono fun e v ⟨h1, h2⟩ => ⟨by rw [h1]; unfold stR; rw [if_pos rfl, ← HK.out], h2⟩)
  refine (CS.out s W (by omega) (Below.refl _ _)).mono ?_
  rintro e w1 ⟨rfl, hb1⟩
  rw [Hst.out]
  unfold trip64
  have Hb1 := Lib.hid hb1
  clear hb1
  go_wp2_with fail
  have HBv := Lib.hid (Blk.new w1 9 (#[.string ⟨#[0, 0, 0]⟩, .string ⟨#[128, 128, 128]⟩, .string ⟨#[144, 128, 128]⟩, .string ⟨#[160, 128, 128]⟩, .string ⟨#[220, 0, 0]⟩, .string ⟨#[0, 220, 0]⟩, .string ⟨#[220, 220, 220]⟩] : Array Value))
  have bv := below_new w1 (.cells (#[.string ⟨#[0, 0, 0]⟩, .string ⟨#[128, 128, 128]⟩, .string ⟨#[144, 128, 128]⟩, .string ⟨#[160, 128, 128]⟩, .string ⟨#[220, 0, 0]⟩, .string ⟨#[0, 220, 0]⟩, .string ⟨#[220, 220, 220]⟩] : Array Value) 9)
  have HbV := Lib.hid (Hb1.out.trans (bv.mono Hb1.out.size))
  clear bv
  obtain ⟨V, hV⟩ : ∃ V, V = w1.alloc (.cells (#[.string ⟨#[0, 0, 0]⟩, .string ⟨#[128, 128, 128]⟩, .string ⟨#[144, 128, 128]⟩, .string ⟨#[160, 128, 128]⟩, .string ⟨#[220, 0, 0]⟩, .string ⟨#[0, 220, 0]⟩, .string ⟨#[220, 220, 220]⟩] : Array Value) 9) := ⟨_, rfl⟩
  rw [← hV] at HBv HbV ⊢
  clear hV
  obtain ⟨ad, had⟩ : ∃ ad, ad = (⟨w1.heap.size, 0, none⟩ : Addr) := ⟨_, rfl⟩
  have Hce := Lib.hid (show ∀ k u, k < 7 → (#[.string ⟨#[0, 0, 0]⟩, .string ⟨#[128, 128, 128]⟩, .string ⟨#[144, 128, 128]⟩, .string ⟨#[160, 128, 128]⟩, .string ⟨#[220, 0, 0]⟩, .string ⟨#[0, 220, 0]⟩, .string ⟨#[220, 220, 220]⟩] : Array Value)[k]? = some (.string ⟨u⟩) → ∀ x, Below V.heap.size V x → x.cell? (ad.add k) = some (.string ⟨u⟩) from fun k u hk hu x hx => by
    have := (HBv.out.stay hx).cell k
    rw [hu] at this
    rw [had]
    by_cases h0 : k = 0
    · subst h0; simpa [Addr.add] using this
    · simpa [Addr.add, h0] using this)
  rw [← had]
  clear had HBv
  go_loopw [9] (fun i wr => ∃ k : Nat, k ≤ 7 ∧ i = .int .i64 (k : Int) ∧ Hid (∀ u ∈ ends7.take k, stepK K (s ++ u) = stepK K s) ∧ Hid (Below V.heap.size V wr)) (fun i _ => 7 - (intOf i).toNat)
  case atStart => exact ⟨0, by omega, rfl, Lib.hid (by simp), Lib.hid (Below.refl _ _)⟩
  case round =>
    obtain ⟨k, hk, rfl, Ha, Hb⟩ := hrel
    by_cases hlt : k < 7
    · obtain ⟨u, hu, hul, hue⟩ := ends_at hlt
      have hki : (k : Int) < 7 := by omega
      obtain ⟨⟨z2, m2, ok2⟩, hst2⟩ : ∃ x, stepK K (s ++ u) = x := ⟨_, rfl⟩
      have Hst2 := Lib.hid hst2
      have Hu := Lib.hid hu
      have hcat : (⟨s.toArray⟩ : ByteArray) ++ ⟨u.toArray⟩ = ⟨(s ++ u).toArray⟩ := ByteArray.mk_append_mk s u
      have hA : ∀ x : World, (Op.stringOp .add ⟨s.toArray⟩ ⟨u.toArray⟩).run Tryd.prog x = .ok (.string ⟨(s ++ u).toArray⟩) x := fun x => by rw [run_string_add_sum x _ _ (by simp [ByteArray.size]; omega), hcat]
      have HbW := Lib.hid (HbV.out.trans (Hb.out.mono HbV.out.size))
      have CR := Lib.hid (show Calls Tryd.prog 26 #[.agg #[.int .i64 kind, .slice A n c], .string ⟨(s ++ u).toArray⟩] wr.drew fun e v => e = .returned (.tuple #[.int .i64 (z2 : Int), .int .i64 (m2 : Int), .bool ok2]) ∧ Below wr.heap.size wr v from
        (CS.out (s ++ u) wr.drew (by simp; omega) HbW.out.drew).mono fun e v ⟨h1, h2⟩ => ⟨by rw [h1, Hst2.out]; rfl, (Below.refl wr.heap.size wr).drew.trans h2⟩)
      have KC := Lib.hid (show ∀ x, Below wr.heap.size wr x → x.cell? ⟨w.heap.size, 0, none⟩ = some (.int .i64 kind) ∧ x.cell? ⟨w.heap.size, 1, none⟩ = some (.slice A n c) ∧ x.cell? (ad.add k) = some (.string ⟨u.toArray⟩) from fun x hx => ⟨((HB.out.stay HbW.out).stay hx).cell 0, ((HB.out.stay HbW.out).stay hx).cell 1, Hce.out k _ hlt hue x (Hb.out.trans (hx.mono Hb.out.size))⟩)
      have HbD := Lib.hid ((Below.refl wr.heap.size wr).drew)
      clear hst2 hu hue
      go_wp2_with fail
      go_region_held3 (fun x => x.cell? ⟨w.heap.size, 0, none⟩ = some (.int .i64 kind) ∧ x.cell? ⟨w.heap.size, 1, none⟩ = some (.slice A n c) ∧ x.cell? (ad.add k) = some (.string ⟨u.toArray⟩)) (first | exact KC.out _ HbD.out | exact KC.out _ hbS) (first | (go_at_call 26; (with_reducible refine CR.out.mono ?_); rintro e w5 ⟨rfl, hbS⟩))
      have HbS := Lib.hid (Hb.out.trans (hbS.mono Hb.out.size))
      have HbE := Lib.hid (HL.out.trans ((HbW.out.trans (hbS.mono HbW.out.size)).mono HL.out.size))
      clear hbS
      by_cases heq : (z2, m2, ok2) = (z, m, ok)
      · obtain ⟨rfl, rfl, rfl⟩ : z2 = z ∧ m2 = m ∧ ok2 = ok := by simpa using heq
        have Hnx := Lib.hid (ends_succ (P := fun u => stepK K (s ++ u) = stepK K s) Hu.out Ha.out (by show _ = _; rw [Hst2.out, Hst.out]))
        go_wp2
        go_roundw
        case rel => exact ⟨k + 1, by omega, by go_num, Hnx, HbS⟩
        case measure => simp [intOf]; omega
      · have Hg := Lib.hid (show goesK K s = false by
          cases hg : goesK K s with
          | false => rfl
          | true =>
            have := (goes_iff K s hne).1 hg u (List.mem_of_getElem? Hu.out)
            rw [Hst2.out, Hst.out] at this; exact absurd this heq)
        by_cases e1 : (z2 : Int) = z
        · by_cases e2 : (m2 : Int) = m
          · have e3 : ok2 ≠ ok := by
              intro e3
              exact heq (by rw [e3, show z2 = z by omega, show m2 = m by omega])
            rw [e1, e2]
            cases ok <;> cases ok2 <;> first | exact absurd rfl e3 | (go_wp2; go_ret; exact ⟨by rw [Hg.out]; rfl, HbE.out⟩)
          · have e2n : ((m2 : Int) == m) = false := by simpa using e2
            rw [e1]
            go_wp2
            go_ret
            exact ⟨by rw [Hg.out]; rfl, HbE.out⟩
        · have e1n : ((z2 : Int) == z) = false := by simpa using e1
          go_wp2
          go_ret
          exact ⟨by rw [Hg.out]; rfl, HbE.out⟩
    · have hki : ¬ (k : Int) < 7 := by omega
      have Hg := Lib.hid (show goesK K s = true from (goes_iff K s hne).2 (ends_all (by omega) Ha.out))
      go_wp2
      go_ret
      exact ⟨by rw [Hg.out]; rfl, HL.out.trans ((HbV.out.trans (Hb.out.mono HbV.out.size)).mono HL.out.size)⟩
end Go.Proofs.YtbcbmmgfdobdiaaDoor
/- The reference's Certain of layer 8. -/
namespace Go.Proofs.YtbcbmmgfdobdiaaDoor
open Go.RowKit

set_option maxRecDepth 100000 in
set_option maxHeartbeats 4000000 in
theorem rcertain_any (kind : Int) (A : Option Addr) (n c : Nat) (codes : List Int) (s : List UInt8) (w : World) (h : Reads w w.heap.size 1 A n (codes.map iv)) (hC : CkE kind codes 0) (hs : s.length ≤ 100000) :
    Calls Tryd.prog 59 #[.agg #[.int .i64 kind, .slice A n c], .string ⟨s.toArray⟩] w fun e w' => e = .returned (.int .i64 (certK (cdOf kind codes) s.length s : Nat)) ∧ Below w.heap.size w w' := by
  obtain ⟨K, hK⟩ : ∃ K, K = cdOf kind codes := ⟨_, rfl⟩
  rw [← hK]
  have HK := Lib.hid hK
  clear hK
  have bn := below_new w (.cells #[.int .i64 kind, .slice A n c] 26)
  have HB := Lib.hid (Blk.new w 26 #[.int .i64 kind, .slice A n c])
  have HR := Lib.hid (h.stay bn)
  have HL := Lib.hid bn
  have HC := Lib.hid hC
  clear bn h hC
  go_enter Tryd.func59, Tryd.ntmps59
  go_wp2_with fail
  obtain ⟨W, hW⟩ : ∃ W, W = w.alloc (.cells #[.int .i64 kind, .slice A n c] 26) := ⟨_, rfl⟩
  rw [← hW] at HB HR HL ⊢
  clear hW
  go_loopw [5] (fun i wr => ∃ (k f : Nat), k ≤ s.length ∧ i = .int .i64 (k : Int) ∧ s.length - k ≤ f ∧ Hid (certK K s.length s = k + certK K f (s.drop k)) ∧ Hid (Below W.heap.size W wr)) (fun i _ => s.length - (intOf i).toNat)
  case atStart => exact ⟨0, s.length, Nat.zero_le _, rfl, by omega, Lib.hid (by simp), Lib.hid (Below.refl _ _)⟩
  case round =>
    obtain ⟨k, f, hk, rfl, hf, Hc, Hb⟩ := hrel
    have KC := Lib.hid (show ∀ u, Below wr.heap.size wr u → u.cell? ⟨w.heap.size, 0, none⟩ = some (.int .i64 kind) ∧ u.cell? ⟨w.heap.size, 1, none⟩ = some (.slice A n c) from fun u hu => ⟨((HB.out.stay Hb.out).stay hu).cell 0, ((HB.out.stay Hb.out).stay hu).cell 1⟩)
    have HbD := Lib.hid ((Below.refl wr.heap.size wr).drew)
    by_cases hlt : k < s.length
    · have hne : s.drop k ≠ [] := by intro e; have := congrArg List.length e; rw [List.length_drop, List.length_nil] at this; omega
      have hbd := stepK_bd K _ hne
      have hx1 := ext_drop s k
      obtain ⟨⟨z, m, ok⟩, hst⟩ : ∃ x, stepK K (s.drop k) = x := ⟨_, rfl⟩
      rw [hst] at hbd
      simp only at hbd
      obtain ⟨hn1, hn4, hn3⟩ := hbd
      have hTl : (s.drop k).length = s.length - k := List.length_drop
      rw [hTl] at hn3
      obtain ⟨g, rfl⟩ : ∃ g, f = g + 1 := ⟨f - 1, by omega⟩
      have HTl := Lib.hid (show (s.drop k).length ≤ 100000 by omega)
      have CY := Lib.hid (show Calls Tryd.prog 84 #[.agg #[.int .i64 kind, .slice A n c], .string ⟨(s.drop k).toArray⟩] wr.drew fun e v => e = .returned (.bool (goesK K (s.drop k))) ∧ Below wr.heap.size wr v from
        (rstays_any kind A n c codes (s.drop k) wr.drew (HR.out.stay Hb.out).drew HC.out HTl.out hne).mono fun e v ⟨h1, h2⟩ => ⟨by rw [h1, ← HK.out], (Below.refl wr.heap.size wr).drew.trans h2⟩)
      have CR := Lib.hid (show ∀ u, Below wr.heap.size wr u → Calls Tryd.prog 26 #[.agg #[.int .i64 kind, .slice A n c], .string ⟨(s.drop k).toArray⟩] u fun e v => e = .returned (.tuple #[.int .i64 (z : Int), .int .i64 (m : Int), .bool ok]) ∧ Below wr.heap.size wr v from fun u hu =>
        (rstep_any kind A n c codes 0 (s.drop k) u ((HR.out.stay Hb.out).stay hu) HC.out (by have := HTl.out; omega)).mono fun e v ⟨h1, h2⟩ => ⟨by rw [h1]; unfold stR; rw [if_pos rfl, ← HK.out, hst]; rfl, hu.trans (h2.mono hu.size)⟩)
      have hki : (k : Int) < (s.length : Int) := by omega
      have hki2 : (k : Int) ≤ (s.length : Int) := by omega
      have hkd : decide ((k : Int) < (s.length : Int)) = true := decide_eq_true hki
      cases hg : goesK K (s.drop k) with
      | true =>
        rw [hg] at CY
        have Hnx := Lib.hid (show certK K s.length s = (k + m) + certK K g (s.drop (k + m)) by
          rw [Hc.out, certK_go hne hst hg, List.drop_drop]; omega)
        clear hg hst hne hTl HTl
        generalize s.drop k = T at hx1 CY CR
        go_wp2_with fail
        go_region_held3 (fun u => u.cell? ⟨w.heap.size, 0, none⟩ = some (.int .i64 kind) ∧ u.cell? ⟨w.heap.size, 1, none⟩ = some (.slice A n c)) (first | exact KC.out _ HbD.out | exact KC.out _ hbS) (first | (go_at_call 84; (with_reducible refine CY.out.mono ?_); rintro e w5 ⟨rfl, hbS⟩))
        have HbE := Lib.hid hbS.drew
        clear hbS
        go_wp2_with fail
        go_region_held3 (fun u => u.cell? ⟨w.heap.size, 0, none⟩ = some (.int .i64 kind) ∧ u.cell? ⟨w.heap.size, 1, none⟩ = some (.slice A n c)) (first | exact KC.out _ HbE.out | exact KC.out _ hbS) (first | (go_at_call 26; (with_reducible refine (CR.out _ HbE.out).mono ?_); rintro e w6 ⟨rfl, hbS⟩))
        have HbS := Lib.hid (Hb.out.trans (hbS.mono Hb.out.size))
        clear hbS
        go_wp2
        go_roundw
        case rel => exact ⟨k + m, g, by omega, by go_num, by omega, Hnx, HbS⟩
        case measure => simp [intOf]; omega
      | false =>
        rw [hg] at CY
        have Hnx := Lib.hid (show certK K s.length s = k by
          rw [Hc.out, certK_stop hne hg]; rfl)
        clear hg hst hne hTl HTl CR
        generalize s.drop k = T at hx1 CY
        go_wp2_with fail
        go_region_held3 (fun u => u.cell? ⟨w.heap.size, 0, none⟩ = some (.int .i64 kind) ∧ u.cell? ⟨w.heap.size, 1, none⟩ = some (.slice A n c)) (first | exact KC.out _ HbD.out | exact KC.out _ hbS) (first | (go_at_call 84; (with_reducible refine CY.out.mono ?_); rintro e w5 ⟨rfl, hbS⟩))
        have HbS := Lib.hid (Hb.out.trans (hbS.mono Hb.out.size))
        clear hbS
        go_wp2
        go_ret
        exact ⟨by rw [Hnx.out]; rfl, HL.out.trans (HbS.out.mono HL.out.size)⟩
    · obtain rfl : k = s.length := by omega
      have hkd : decide ((s.length : Int) < (s.length : Int)) = false := decide_eq_false (by omega)
      have hki : ¬ (s.length : Int) < (s.length : Int) := by omega
      have Hnx := Lib.hid (show certK K s.length s = s.length by
        rw [Hc.out, List.drop_length, certK_nil]; rfl)
      go_wp2_with fail
      obtain ⟨q0, q1⟩ := KC.out _ HbD.out
      have q2 := KC.out _ (Below.refl _ _)
      obtain ⟨q2, q3⟩ := q2
      go_quiet (fail)
      go_wp2
      go_ret
      exact ⟨by rw [Hnx.out]; rfl, HL.out.trans ((below_drewN Hb.out _).mono HL.out.size)⟩
end Go.Proofs.YtbcbmmgfdobdiaaDoor
/- The reference's stream of layer 8: convert, Write, Close, Pending. -/
namespace Go.Proofs.YtbcbmmgfdobdiaaDoor
open Go.RowKit

/-- a stream of the reference in memory -/
def rstV (rest : List UInt8) (done : Nat) (made : Bool) (k1 : Int) (A1 : Option Addr) (n1 c1 : Nat) (k2 : Int) (A2 : Option Addr) (n2 c2 : Nat) (p : Int) : Array Value := #[.int .i64 k1, .slice A1 n1 c1, .int .i64 k2, .slice A2 n2 c2, .int .i64 p, .bool made, .int .i64 (done : Int), .string ⟨rest.toArray⟩]
theorem rstV_made (rest : List UInt8) (done : Nat) (a b : Bool) (k1 : Int) (A1 : Option Addr) (n1 c1 : Nat) (k2 : Int) (A2 : Option Addr) (n2 c2 : Nat) (p : Int) : (rstV rest done a k1 A1 n1 c1 k2 A2 n2 c2 p).setIfInBounds 5 (.bool b) = rstV rest done b k1 A1 n1 c1 k2 A2 n2 c2 p := rfl
theorem rstV_rest (rest r2 : List UInt8) (done : Nat) (a : Bool) (k1 : Int) (A1 : Option Addr) (n1 c1 : Nat) (k2 : Int) (A2 : Option Addr) (n2 c2 : Nat) (p : Int) : (rstV rest done a k1 A1 n1 c1 k2 A2 n2 c2 p).setIfInBounds 7 (.string ⟨r2.toArray⟩) = rstV r2 done a k1 A1 n1 c1 k2 A2 n2 c2 p := rfl
theorem rstV_two (rest r2 : List UInt8) (done d2 : Nat) (a : Bool) (k1 : Int) (A1 : Option Addr) (n1 c1 : Nat) (k2 : Int) (A2 : Option Addr) (n2 c2 : Nat) (p : Int) : ((rstV rest done a k1 A1 n1 c1 k2 A2 n2 c2 p).setIfInBounds 6 (.int .i64 (d2 : Int))).setIfInBounds 7 (.string ⟨r2.toArray⟩) = rstV r2 d2 a k1 A1 n1 c1 k2 A2 n2 c2 p := rfl
/-- what convert leaves -/
def RNextR (w : World) (g done n : Nat) (rest : List UInt8) (k1 : Int) (A1 : Option Addr) (n1 c1 : Nat) (k2 : Int) (A2 : Option Addr) (n2 c2 : Nat) (p : Int) (r : Except (Int × Nat) (List UInt8)) (e : Ending) (w' : World) : Prop :=
  e = .returned (.tuple #[.string ⟨(oT r).toArray⟩, .agg #[.int .i64 (eT r), .int .i64 (if eT r = 0 then 0 else ((done + iT r : Nat) : Int))]]) ∧ w.grownBy w' (some g) ∧
    (eT r = 0 → Blk w' g 97 (rstV (rest.drop n) (done + n) true k1 A1 n1 c1 k2 A2 n2 c2 p)) ∧ (eT r ≠ 0 → Blk w' g 97 (rstV rest done false k1 A1 n1 c1 k2 A2 n2 c2 p))

set_option maxRecDepth 100000 in
set_option maxHeartbeats 4000000 in
theorem rconvert_any (g n done : Nat) (rest : List UInt8) (k1 : Int) (A1 : Option Addr) (n1 c1 : Nat) (q1 : List Int) (k2 : Int) (A2 : Option Addr) (n2 c2 : Nat) (q2 : List Int) (p : Int) (w : World)
    (hB : Blk w g 97 (rstV rest done true k1 A1 n1 c1 k2 A2 n2 c2 p)) (hS : StrG w g k1 A1 n1 q1 k2 A2 n2 q2 p) (hn : n ≤ rest.length) (hl : rest.length + done ≤ 100000) :
    Calls Tryd.prog 58 #[.pointer (some ⟨g, 0, none⟩), .int .i64 (n : Int)] w fun e w' => RNextR w g done n rest k1 A1 n1 c1 k2 A2 n2 c2 p (convK (cdOf k1 q1) (cdOf k2 q2) p (rest.take n)) e w' := by
  obtain ⟨r, hr⟩ : ∃ r, r = convK (cdOf k1 q1) (cdOf k2 q2) p (rest.take n) := ⟨_, rfl⟩
  have Hr := Lib.hid hr
  have HT := Lib.hid (eT_iT (K := cdOf k1 q1) (L := cdOf k2 q2) (p := p) (s := rest.take n))
  rw [← hr] at HT ⊢
  clear hr
  obtain ⟨W, hW⟩ : ∃ W, W = w.alloc (.cells #[.int .i64 0, .int .i64 0] 37) := ⟨_, rfl⟩
  have bn : Below w.heap.size w W := by rw [hW]; exact below_new _ _
  have hRV : Blk W w.heap.size 37 #[.int .i64 0, .int .i64 0] := by rw [hW]; exact Blk.new _ _ _
  have hgl := hB.lt
  have HGW := Lib.hid (hB.stay bn)
  have HSW := Lib.hid (hS.below bn)
  have HRV := Lib.hid hRV
  have HgW := Lib.hid (grown_of_below bn (some g))
  clear bn hRV hB hS
  have Hlt := Lib.hid (HRV.out.lt)
  have hx1 := ext_head' rest n
  have hx2 := ext_drop rest n
  obtain ⟨X, hX⟩ : ∃ X, X = rest.take n := ⟨_, rfl⟩
  have HXl := Lib.hid (show X.length ≤ 100000 by rw [hX, List.length_take]; omega)
  rw [← hX] at Hr HT hx1
  clear hX
  obtain ⟨Y, hY⟩ : ∃ Y, Y = rest.drop n := ⟨_, rfl⟩
  have HY := Lib.hid hY
  have HYl := Lib.hid (show Y.length + (done + n) ≤ 100000 by rw [hY, List.length_drop]; omega)
  rw [← hY] at hx2
  clear hY
  have hni : (n : Int) ≤ (rest.length : Int) := by omega
  have CC := Lib.hid (show ∀ u, Below W.heap.size W u → Calls Tryd.prog 83 #[.agg #[.int .i64 k1, .slice A1 n1 c1], .agg #[.int .i64 k2, .slice A2 n2 c2], .string ⟨X.toArray⟩, .int .i64 p] u fun e v => e = .returned (.tuple #[.string ⟨(oT r).toArray⟩, .agg #[.int .i64 (eT r), .int .i64 (iT r : Int)]]) ∧ Below u.heap.size u v from fun u hu => by
    have h := HSW.out.below hu
    refine (rconvK_any k1 A1 n1 c1 q1 k2 A2 n2 c2 q2 X p u (h.1.up (Nat.le_of_lt h.2.2.2.2.1)) (h.2.1.up (Nat.le_of_lt h.2.2.2.2.1)) h.2.2.2.2.2.1 h.2.2.2.2.2.2.1 h.2.2.2.2.2.2.2.1 h.2.2.2.2.2.2.2.2 HXl.out).mono fun e v ⟨h1, h2⟩ => ⟨?_, h2⟩
    rw [h1, ← Hr.out, outT_eq])
  have K := Lib.hid (show ∀ (u : World), Below W.heap.size W u → u.cell? ⟨g, 0, none⟩ = some (.int .i64 k1) ∧ u.cell? ⟨g, 1, none⟩ = some (.slice A1 n1 c1) ∧ u.cell? ⟨g, 2, none⟩ = some (.int .i64 k2) ∧ u.cell? ⟨g, 3, none⟩ = some (.slice A2 n2 c2) ∧ u.cell? ⟨g, 4, none⟩ = some (.int .i64 p) ∧ u.cell? ⟨g, 7, none⟩ = some (.string ⟨rest.toArray⟩) from fun u hu => by
    have h := HGW.out.stay hu
    exact ⟨h.cell 0, h.cell 1, h.cell 2, h.cell 3, h.cell 4, h.cell 7⟩)
  have HbD := Lib.hid ((Below.refl W.heap.size W).drew)
  have HbA := Lib.hid ((below_new W (.cells #[.int .i64 0, .int .i64 0] 37)).drew)
  go_enter Tryd.func58, Tryd.ntmps58
  go_wp2_with fail
  rw [← hW]
  clear hW
  obtain ⟨o, ho⟩ : ∃ o, o = oT r := ⟨_, rfl⟩
  obtain ⟨fe, hfe⟩ : ∃ o, o = eT r := ⟨_, rfl⟩
  obtain ⟨fi, hfi⟩ : ∃ o, o = iT r := ⟨_, rfl⟩
  rw [← ho, ← hfe, ← hfi] at CC
  have HO := Lib.hid (And.intro ho (And.intro hfe hfi))
  clear ho hfe hfi
  go_cut [6, 7] (fun s6 s7 wx => s6 = .string ⟨o.toArray⟩ ∧ ∃ N : Nat, s7 = .pointer (some ⟨N, 0, none⟩) ∧ Hid (Blk wx N 37 #[.int .i64 fe, .int .i64 (fi : Int)]) ∧ Hid (W.heap.size ≤ N) ∧ Hid (Below W.heap.size W wx))
  case first =>
    go_region_held3 (fun u => u.cell? ⟨g, 0, none⟩ = some (.int .i64 k1) ∧ u.cell? ⟨g, 1, none⟩ = some (.slice A1 n1 c1) ∧ u.cell? ⟨g, 2, none⟩ = some (.int .i64 k2) ∧ u.cell? ⟨g, 3, none⟩ = some (.slice A2 n2 c2) ∧ u.cell? ⟨g, 4, none⟩ = some (.int .i64 p) ∧ u.cell? ⟨g, 7, none⟩ = some (.string ⟨rest.toArray⟩))
      (first | exact K.out _ HbD.out | exact K.out _ HbA.out | exact K.out _ hbS | exact K.out _ (hbS.alloc hbS.size _) | exact K.out _ ((hbS.setCell (p := ⟨W.heap.size, 0, none⟩) (Nat.le_refl _) _).setCell (p := ⟨W.heap.size, 1, none⟩) (Nat.le_refl _) _))
      (first | (go_at_call 83; (first
            | ((with_reducible refine (CC.out _ HbD.out).mono ?_); rintro e w5 ⟨rfl, hb5⟩; have hbS := HbD.out.trans (hb5.mono HbD.out.size); clear hb5)
            | ((with_reducible refine (CC.out _ HbA.out).mono ?_); rintro e w5 ⟨rfl, hb5⟩; have hF5 : Blk w5 W.heap.size 37 #[.int .i64 0, .int .i64 0] := (Blk.new W 37 #[.int .i64 0, .int .i64 0]).drew.stay hb5; have z0 := hF5.cell 0; have z1 := hF5.cell 1; have f0 := hF5.frozen 0; have f1 := hF5.frozen 1; have hbS := HbA.out.trans (hb5.mono HbA.out.size); clear hb5))))
    · go_wp2_with fail
      go_meet
      exact ⟨rfl, w5.heap.size, rfl, Lib.hid (Blk.new _ _ _), Lib.hid hbS.size, Lib.hid (hbS.alloc hbS.size _)⟩
    · go_wp2_with fail
      go_meet
      exact ⟨rfl, W.heap.size, rfl, Lib.hid ((hF5.set_ 0 _).set_ 1 _), Lib.hid (Nat.le_refl _), Lib.hid ((hbS.setCell (p := ⟨W.heap.size, 0, none⟩) (Nat.le_refl _) _).setCell (p := ⟨W.heap.size, 1, none⟩) (Nat.le_refl _) _)⟩
  case rest =>
    obtain ⟨rfl, N, rfl, HN, HNl, HGr⟩ := hcut
    clear CC K HbD HbA
    have hneR : w.heap.size ≠ g := by omega
    have hneN : w.heap.size ≠ N := by have := HNl.out; have := Hlt.out; omega
    have hgN : g ≠ N := by have := HNl.out; have := Hlt.out; omega
    have HGc := Lib.hid (HGW.out.stay HGr.out)
    have hRV := HRV.out.stay HGr.out
    have HwG := Lib.hid (grown_trans HgW.out (grown_of_below HGr.out (some g)))
    have HRW := Lib.hid hRV
    have m0 := HN.out.cell 0
    have m1 := HN.out.cell 1
    clear hRV
    rcases HT.out with ⟨h1, h2, h3⟩ | ⟨h1, h2, h3, h4⟩
    · obtain ⟨ho, hfe, hfi⟩ := HO.out
      obtain rfl : fe = 0 := by rw [hfe, h1]
      have Ho := Lib.hid ho
      have H1 := Lib.hid h1
      clear h1 h2 h3 ho hfe hfi HT HO
      have g6 : wc.cell? ⟨g, 6, none⟩ = some (.int .i64 (done : Int)) := HGc.out.cell 6
      have e6 := HGc.out.frozen 6
      have hG1 := HGc.out.set_ 6 (.int .i64 ((done + n : Nat) : Int))
      have gG1 := grown_setCell (p := ⟨g, 6, none⟩) HwG.out (.inl rfl) (.int .i64 ((done + n : Nat) : Int))
      have hR1 := HRW.out.far (p := ⟨g, 6, none⟩) hneR (.int .i64 ((done + n : Nat) : Int))
      have g7 : (wc.setCell ⟨g, 6, none⟩ (.int .i64 ((done + n : Nat) : Int))).cell? ⟨g, 7, none⟩ = some (.string ⟨rest.toArray⟩) := hG1.cell 7
      have e7 := hG1.frozen 7
      have hG2 := hG1.set_ 7 (.string ⟨Y.toArray⟩)
      rw [rstV_two] at hG2
      have gG2 := grown_setCell (p := ⟨g, 7, none⟩) gG1 (.inl rfl) (.string ⟨Y.toArray⟩)
      have hR2 := hR1.far (p := ⟨g, 7, none⟩) hneR (.string ⟨Y.toArray⟩)
      have HG2 := Lib.hid hG2
      have GG2 := Lib.hid gG2
      have HR2 := Lib.hid hR2
      clear hG1 gG1 hR1 hG2 gG2 hR2
      have z0 := HR2.out.cell 0
      have z1 := HR2.out.cell 1
      have f0 := HR2.out.frozen 0
      have f1 := HR2.out.frozen 1
      simp only [Int.natCast_add] at g7 e7 z0 z1 f0 f1 HG2 GG2 HR2
      have hF2 := (HR2.out.set_ 0 (.int .i64 0)).set_ 1 (.int .i64 0)
      have gF := grown_setCell (p := ⟨w.heap.size, 1, none⟩) (grown_setCell (p := ⟨w.heap.size, 0, none⟩) GG2.out (.inr (Nat.le_refl _)) (.int .i64 0)) (.inr (Nat.le_refl _)) (.int .i64 0)
      have bF := (HG2.out.far (p := ⟨w.heap.size, 0, none⟩) (by simpa using hneR.symm) (.int .i64 0)).far (p := ⟨w.heap.size, 1, none⟩) (by simpa using hneR.symm) (.int .i64 0)
      have D := Lib.hid (And.intro (hF2.cell 0) (hF2.cell 1))
      have GF := Lib.hid gF
      have BF := Lib.hid bF
      clear gF bF hF2
      go_wp2
      obtain ⟨d0, d1⟩ := D.out
      have gF := GF.out
      have bF := BF.out
      clear D GF BF z0 z1 f0 f1
      generalize World.setCell (World.setCell _ ⟨w.heap.size, 0, none⟩ (.int .i64 0)) ⟨w.heap.size, 1, none⟩ (.int .i64 0) = V at d0 d1 gF bF ⊢
      have HP : RNextR w g done n rest k1 A1 n1 c1 k2 A2 n2 c2 p r (.returned (.tuple #[.string ⟨o.toArray⟩, .agg #[.int .i64 0, .int .i64 0]])) V := ⟨by rw [H1.out, if_pos rfl, ← Ho.out], gF, fun _ => by rw [← HY.out]; exact bF, fun h => absurd H1.out h⟩
      exact bodyPost_ret (v := .tuple #[.string ⟨o.toArray⟩, .agg #[.int .i64 0, .int .i64 0]]) (by simp [results, Tryd.results58, go_sem] at d0 d1 ⊢; simp [d0, d1]) rfl HP
    · obtain ⟨ho, hfe, hfi⟩ := HO.out
      have hfn : (fe != 0) = true := bne_iff_ne.2 (by rw [hfe]; exact h1)
      have hfil : fi ≤ 100000 := by rw [hfi]; have := HXl.out; omega
      have hsum : IntKind.i64.wrap ((fi : Int) + (done : Int)) = ((fi : Int) + (done : Int)) := by rw [IntWalk.i64_in _ (by omega)]
      have Hsum := Lib.hid hsum
      have HF := Lib.hid (And.intro ho (And.intro hfe (And.intro hfi (And.intro h1 h3))))
      clear h1 h2 h3 h4 ho hfe hfi HT HO hsum
      go_wp2_with fail
      have g6 : wc.cell? ⟨g, 6, none⟩ = some (.int .i64 (done : Int)) := HGc.out.cell 6
      have hNd : Blk wc.drew N 37 #[.int .i64 fe, .int .i64 (fi : Int)] := HN.out
      have hGd : Blk wc.drew g 97 (rstV rest done true k1 A1 n1 c1 k2 A2 n2 c2 p) := HGc.out
      have hRd : Blk wc.drew w.heap.size 37 #[.int .i64 0, .int .i64 0] := HRW.out
      have gwd : w.grownBy wc.drew (some g) := grown_drew HwG.out
      have hsum := Hsum.out
      go_still_tail 8, (by kernel_rfl)
      change wpList _ _ _ _ _ wc.drew
      clear m0 m1 g6
      generalize wc.drew = V at hNd hGd hRd gwd ⊢
      have c1 := hNd.cell 1
      have e1 := hNd.frozen 1
      have hN2 := hNd.set_ 1 (.int .i64 ((fi : Int) + (done : Int)))
      have hG2 := hGd.far (p := ⟨N, 1, none⟩) hgN (.int .i64 ((fi : Int) + (done : Int)))
      have hR2 := hRd.far (p := ⟨N, 1, none⟩) hneN (.int .i64 ((fi : Int) + (done : Int)))
      have hNw : w.heap.size ≤ N := by have := HNl.out; have := Hlt.out; omega
      have gw2 := grown_setCell (p := ⟨N, 1, none⟩) gwd (.inr hNw) (.int .i64 ((fi : Int) + (done : Int)))
      have g5 : (V.setCell ⟨N, 1, none⟩ (.int .i64 ((fi : Int) + (done : Int)))).cell? ⟨g, 5, none⟩ = some (.bool true) := hG2.cell 5
      have e5 := hG2.frozen 5
      have hG3 := hG2.set_ 5 (.bool false)
      rw [rstV_made] at hG3
      have hN3 := hN2.far (p := ⟨g, 5, none⟩) hgN.symm (.bool false)
      have hR3 := hR2.far (p := ⟨g, 5, none⟩) hneR (.bool false)
      have gw3 := grown_setCell (p := ⟨g, 5, none⟩) gw2 (.inl rfl) (.bool false)
      have HG3 := Lib.hid hG3
      have HN3 := Lib.hid hN3
      have HR3 := Lib.hid hR3
      have GW3 := Lib.hid gw3
      clear hNd hGd hRd gwd hN2 hG2 hR2 gw2 hG3 hN3 hR3 gw3 HN HGr HGc HwG HRW hsum Hsum
      go_wp2_with fail
      clear c1 e1 g5 e5
      generalize (V.setCell ⟨N, 1, none⟩ (.int .i64 ((fi : Int) + (done : Int)))).setCell ⟨g, 5, none⟩ (.bool false) = Z at HG3 HN3 HR3 GW3 ⊢
      have K2 := Lib.hid (show ∀ u, Blk u N 37 (#[.int .i64 fe, .int .i64 (fi : Int)].setIfInBounds 1 (.int .i64 ((fi : Int) + (done : Int)))) → u.cell? ⟨N, 0, none⟩ = some (.int .i64 fe) ∧ u.cell? ⟨N, 1, none⟩ = some (.int .i64 ((fi : Int) + (done : Int))) from fun u h => ⟨h.cell 0, h.cell 1⟩)
      have HNd := Lib.hid (show Blk Z.drew N 37 (#[.int .i64 fe, .int .i64 (fi : Int)].setIfInBounds 1 (.int .i64 ((fi : Int) + (done : Int)))) from HN3.out)
      have hneN2 : Hid (N ≠ w.heap.size) := Lib.hid hneN.symm
      have z0 := HR3.out.cell 0
      have z1 := HR3.out.cell 1
      have f0 := HR3.out.frozen 0
      have f1 := HR3.out.frozen 1
      go_region_held3 (fun u => u.cell? ⟨N, 0, none⟩ = some (.int .i64 fe) ∧ u.cell? ⟨N, 1, none⟩ = some (.int .i64 ((fi : Int) + (done : Int)))) (first | exact K2.out _ HNd.out | exact K2.out _ ((HNd.out.far (p := ⟨w.heap.size, 0, none⟩) hneN2.out _).far (p := ⟨w.heap.size, 1, none⟩) hneN2.out _)) (first | (go_at_call 83; fail))
      have hFz : Blk ((Z.setCell ⟨w.heap.size, 0, none⟩ (.int .i64 fe)).setCell ⟨w.heap.size, 1, none⟩ (.int .i64 ((fi : Int) + (done : Int)))).drew w.heap.size 37 #[.int .i64 fe, .int .i64 ((fi : Int) + (done : Int))] := (HR3.out.set_ 0 (.int .i64 fe)).set_ 1 (.int .i64 ((fi : Int) + (done : Int)))
      have hGz : Blk ((Z.setCell ⟨w.heap.size, 0, none⟩ (.int .i64 fe)).setCell ⟨w.heap.size, 1, none⟩ (.int .i64 ((fi : Int) + (done : Int)))).drew g 97 (rstV rest done false k1 A1 n1 c1 k2 A2 n2 c2 p) := (HG3.out.far (p := ⟨w.heap.size, 0, none⟩) (by simpa using hneR.symm) (.int .i64 fe)).far (p := ⟨w.heap.size, 1, none⟩) (by simpa using hneR.symm) (.int .i64 ((fi : Int) + (done : Int)))
      have gz := grown_drew (grown_setCell (p := ⟨w.heap.size, 1, none⟩) (grown_setCell (p := ⟨w.heap.size, 0, none⟩) GW3.out (.inr (Nat.le_refl _)) (.int .i64 fe)) (.inr (Nat.le_refl _)) (.int .i64 ((fi : Int) + (done : Int))))
      generalize ((Z.setCell ⟨w.heap.size, 0, none⟩ (.int .i64 fe)).setCell ⟨w.heap.size, 1, none⟩ (.int .i64 ((fi : Int) + (done : Int)))).drew = Z2 at hFz hGz gz ⊢
      clear z0 z1 f0 f1
      go_wp2
      have d0 := hFz.cell 0
      have d1 := hFz.cell 1
      obtain ⟨ho, hfe, hfi, h1, h3⟩ := HF.out
      have HP : RNextR w g done n rest k1 A1 n1 c1 k2 A2 n2 c2 p r (.returned (.tuple #[.string ⟨([] : List UInt8).toArray⟩, .agg #[.int .i64 fe, .int .i64 ((fi : Int) + (done : Int))]])) Z2 := ⟨by rw [h3, if_neg h1, ← hfe, ← hfi]; simp [Int.add_comm], gz, fun h => absurd h h1, fun _ => hGz⟩
      exact bodyPost_ret (v := .tuple #[.string ⟨([] : List UInt8).toArray⟩, .agg #[.int .i64 fe, .int .i64 ((fi : Int) + (done : Int))]]) (by simp [results, Tryd.results58, go_sem] at d0 d1 ⊢; simp [d0, d1]) rfl HP
end Go.Proofs.YtbcbmmgfdobdiaaDoor
/- The reference's stream of layer 8: Write, Close, Pending. -/
namespace Go.Proofs.YtbcbmmgfdobdiaaDoor
open Go.RowKit

theorem setCell_alloc_lt (w : World) (o : Obj) (a : Addr) (v : Value) (h : a.block < w.heap.size) : (w.alloc o).setCell a v = (w.setCell a v).alloc o := by
  unfold World.setCell World.alloc
  simp only [World.mk.injEq, and_true]
  apply Array.ext
  · simp
  · intro i h1 h2
    simp only [Array.getElem_modify, Array.getElem_push, Array.size_modify]
    by_cases hi : i < w.heap.size
    · simp [hi]
    · have : ¬ a.block = i := by omega
      simp [hi, this]
set_option maxRecDepth 100000 in
set_option maxHeartbeats 4000000 in
theorem rpend_shut (g : Nat) (w : World) (hc : w.cell? ⟨g, 5, none⟩ = some (.bool false)) : Calls Tryd.prog 36 #[.pointer (some ⟨g, 0, none⟩)] w fun e w' => e = .returned (.string ⟨([] : List UInt8).toArray⟩) ∧ w' = w := by
  go_enter Tryd.func36, Tryd.ntmps36
  go_wp2
  go_ret
  exact ⟨rfl, rfl⟩
set_option maxRecDepth 100000 in
set_option maxHeartbeats 4000000 in
theorem rpend_open (g : Nat) (rest : List UInt8) (w : World) (hc : w.cell? ⟨g, 5, none⟩ = some (.bool true)) (h0 : w.cell? ⟨g, 7, none⟩ = some (.string ⟨rest.toArray⟩)) : Calls Tryd.prog 36 #[.pointer (some ⟨g, 0, none⟩)] w fun e w' => e = .returned (.string ⟨rest.toArray⟩) ∧ w' = w := by
  go_enter Tryd.func36, Tryd.ntmps36
  go_wp2
  go_ret
  exact ⟨rfl, rfl⟩
set_option maxRecDepth 100000 in
set_option maxHeartbeats 4000000 in
theorem rwrite_shut (g : Nat) (b : List UInt8) (w : World) (hc : w.cell? ⟨g, 5, none⟩ = some (.bool false)) (hg : g < w.heap.size) : Calls Tryd.prog 35 #[.pointer (some ⟨g, 0, none⟩), .string ⟨b.toArray⟩] w fun e w' => e = .returned shutE ∧ Below w.heap.size w w' := by
  have p := Blk.new w 37 #[.int .i64 0, .int .i64 0]
  have z0 := p.cell 0
  have z1 := p.cell 1
  have f0 := p.frozen 0
  have f1 := p.frozen 1
  have HC : (w.alloc (.cells #[.int .i64 0, .int .i64 0] 37)).cell? ⟨g, 5, none⟩ = some (.bool false) := by rw [World.cell?_alloc_lt _ _ _ hg]; exact hc
  clear p hc
  go_enter Tryd.func35, Tryd.ntmps35
  go_wp2
  exact bodyPost_ret (v := shutE) (by simp [results, Tryd.results35, go_sem]; rfl) rfl ⟨rfl, below_new _ _⟩
set_option maxRecDepth 100000 in
set_option maxHeartbeats 4000000 in
theorem rclose_shut (g : Nat) (w : World) (hc : w.cell? ⟨g, 5, none⟩ = some (.bool false)) (hg : g < w.heap.size) : Calls Tryd.prog 34 #[.pointer (some ⟨g, 0, none⟩)] w fun e w' => e = .returned shutE ∧ Below w.heap.size w w' := by
  have p := Blk.new w 37 #[.int .i64 0, .int .i64 0]
  have z0 := p.cell 0
  have z1 := p.cell 1
  have f0 := p.frozen 0
  have f1 := p.frozen 1
  have HC : (w.alloc (.cells #[.int .i64 0, .int .i64 0] 37)).cell? ⟨g, 5, none⟩ = some (.bool false) := by rw [World.cell?_alloc_lt _ _ _ hg]; exact hc
  clear p hc
  go_enter Tryd.func34, Tryd.ntmps34
  go_wp2
  exact bodyPost_ret (v := shutE) (by simp [results, Tryd.results34, go_sem]; rfl) rfl ⟨rfl, below_new _ _⟩

set_option maxRecDepth 100000 in
set_option maxHeartbeats 4000000 in
theorem rwrite_any (g done : Nat) (rest b : List UInt8) (k1 : Int) (A1 : Option Addr) (n1 c1 : Nat) (q1 : List Int) (k2 : Int) (A2 : Option Addr) (n2 c2 : Nat) (q2 : List Int) (p : Int) (w : World)
    (hB : Blk w g 97 (rstV rest done true k1 A1 n1 c1 k2 A2 n2 c2 p)) (hS : StrG w g k1 A1 n1 q1 k2 A2 n2 q2 p) (hl : rest.length + b.length + done ≤ 100000) :
    Calls Tryd.prog 35 #[.pointer (some ⟨g, 0, none⟩), .string ⟨b.toArray⟩] w fun e w' => RNextR w g done (certK (cdOf k1 q1) (rest ++ b).length (rest ++ b)) (rest ++ b) k1 A1 n1 c1 k2 A2 n2 c2 p (convK (cdOf k1 q1) (cdOf k2 q2) p ((rest ++ b).take (certK (cdOf k1 q1) (rest ++ b).length (rest ++ b)))) e w' := by
  obtain ⟨R, hR⟩ : ∃ R, R = rest ++ b := ⟨_, rfl⟩
  have hRl : R.length + done ≤ 100000 := by rw [hR, List.length_append]; omega
  have hcat : (⟨rest.toArray⟩ : ByteArray) ++ ⟨b.toArray⟩ = ⟨R.toArray⟩ := by rw [hR]; exact ByteArray.mk_append_mk rest b
  rw [← hR]
  have HR := Lib.hid hR
  clear hR
  obtain ⟨n, hn⟩ : ∃ n, n = certK (cdOf k1 q1) R.length R := ⟨_, rfl⟩
  have Hn := Lib.hid hn
  have hnl : n ≤ R.length := by rw [hn]; exact certK_le _ _
  rw [← hn]
  clear hn
  obtain ⟨W, hW⟩ : ∃ W, W = w.alloc (.cells #[.int .i64 0, .int .i64 0] 37) := ⟨_, rfl⟩
  have bn : Below w.heap.size w W := by rw [hW]; exact below_new _ _
  have hRV : Blk W w.heap.size 37 #[.int .i64 0, .int .i64 0] := by rw [hW]; exact Blk.new _ _ _
  have hgl := hB.lt
  have hGW := hB.stay bn
  obtain ⟨W1, hW1⟩ : ∃ W1, W1 = W.setCell ⟨g, 7, none⟩ (.string ⟨R.toArray⟩) := ⟨_, rfl⟩
  have hG1 : Blk W1 g 97 (rstV R done true k1 A1 n1 c1 k2 A2 n2 c2 p) := by rw [hW1, ← rstV_rest rest R done true k1 A1 n1 c1 k2 A2 n2 c2 p]; exact hGW.set_ 7 _
  have hg1 : w.grownBy W1 (some g) := by rw [hW1]; exact grown_setCell (grown_of_below bn (some g)) (.inl rfl) _
  have hRV1 : Blk W1 w.heap.size 37 #[.int .i64 0, .int .i64 0] := by rw [hW1]; exact hRV.far (by show w.heap.size ≠ g; omega) _
  have HS1 := Lib.hid (hS.grown hg1)
  have HG1 := Lib.hid hG1
  have Hg1 := Lib.hid hg1
  have HRV1 := Lib.hid hRV1
  have i5 : W.cell? ⟨g, 5, none⟩ = some (.bool true) := hGW.cell 5
  have i7 : W.cell? ⟨g, 7, none⟩ = some (.string ⟨rest.toArray⟩) := hGW.cell 7
  have j7 := hGW.frozen 7
  rw [hW] at i5 i7 j7 hW1
  have Hcm := Lib.hid (show (w.alloc (.cells #[.int .i64 0, .int .i64 0] 37)).setCell ⟨g, 7, none⟩ (.string ⟨R.toArray⟩) = (w.setCell ⟨g, 7, none⟩ (.string ⟨R.toArray⟩)).alloc (.cells #[.int .i64 0, .int .i64 0] 37) from setCell_alloc_lt _ _ _ _ hgl)
  clear bn hRV hB hS hG1 hg1 hRV1 hGW
  go_enter Tryd.func35, Tryd.ntmps35
  go_wp2_with fail
  rw [← Hcm.out, ← hW1]
  clear hW1 hW i5 i7 j7 hcat Hcm
  have c0 : W1.drew.cell? ⟨g, 0, none⟩ = some (.int .i64 k1) := HG1.out.cell 0
  have c1' : W1.drew.cell? ⟨g, 1, none⟩ = some (.slice A1 n1 c1) := HG1.out.cell 1
  have c7 : W1.drew.cell? ⟨g, 7, none⟩ = some (.string ⟨R.toArray⟩) := HG1.out.cell 7
  have CE := Lib.hid (show Calls Tryd.prog 59 #[.agg #[.int .i64 k1, .slice A1 n1 c1], .string ⟨R.toArray⟩] W1.drew fun e v => e = .returned (.int .i64 (n : Int)) ∧ Below W1.heap.size W1 v from by
    have h := HS1.out
    have hle := Nat.le_of_lt h.2.2.2.2.1
    refine (rcertain_any k1 A1 n1 c1 q1 R W1.drew (h.1.up hle).drew h.2.2.2.2.2.1 (by omega)).mono fun e v ⟨h1, h2⟩ => ⟨by rw [h1, Hn.out], (Below.refl W1.heap.size W1).drew.trans h2⟩)
  obtain ⟨r, hr⟩ : ∃ r, r = convK (cdOf k1 q1) (cdOf k2 q2) p (R.take n) := ⟨_, rfl⟩
  have Hr := Lib.hid hr
  obtain ⟨o, ho⟩ : ∃ o, o = oT r := ⟨_, rfl⟩
  obtain ⟨fe, hfe⟩ : ∃ o, o = eT r := ⟨_, rfl⟩
  obtain ⟨fv, hfv⟩ : ∃ x : Int, x = (if eT r = 0 then 0 else ((done + iT r : Nat) : Int)) := ⟨_, rfl⟩
  have HO := Lib.hid (And.intro ho (And.intro hfe hfv))
  clear hr ho hfe hfv
  have NX := Lib.hid (show ∀ v, Below W1.heap.size W1 v → Calls Tryd.prog 58 #[.pointer (some ⟨g, 0, none⟩), .int .i64 (n : Int)] v fun e v' => e = .returned (.tuple #[.string ⟨o.toArray⟩, .agg #[.int .i64 fe, .int .i64 fv]]) ∧ v.grownBy v' (some g) ∧ RNextR v g done n R k1 A1 n1 c1 k2 A2 n2 c2 p r (.returned (.tuple #[.string ⟨o.toArray⟩, .agg #[.int .i64 fe, .int .i64 fv]])) v' from fun v hv => by
    refine (rconvert_any g n done R k1 A1 n1 c1 q1 k2 A2 n2 c2 q2 p v (HG1.out.stay hv) (HS1.out.below hv) hnl hRl).mono fun e v' h => ?_
    rw [← Hr.out] at h
    obtain ⟨ho, hfe, hfv⟩ := HO.out
    have he : e = .returned (.tuple #[.string ⟨o.toArray⟩, .agg #[.int .i64 fe, .int .i64 fv]]) := by rw [h.1, ho, hfe, hfv]
    exact ⟨he, h.2.1, by rw [← he]; exact h⟩)
  have hneR : Hid (w.heap.size ≠ g) := Lib.hid (by omega)
  go_region_with (first | (go_at_call 59; (with_reducible refine CE.out.mono ?_); rintro e w5 ⟨rfl, hb5⟩) | (go_at_call 58; (with_reducible refine (NX.out _ hb5).mono ?_); rintro e w6 ⟨rfl, hg6, hN6⟩; have hRV6 := (HRV1.out.stay hb5).grownS hg6 hneR.out; have z0 := hRV6.cell 0; have z1 := hRV6.cell 1; have f0 := hRV6.frozen 0; have f1 := hRV6.frozen 1))
  all_goals
    have hF2 := (hRV6.set_ 0 (.int .i64 fe)).set_ 1 (.int .i64 fv)
    have d0 := hF2.cell 0
    have d1 := hF2.cell 1
    have gW : w.grownBy w6 (some g) := grown_trans (grown_trans_below Hg1.out hb5) hg6
    have gF := grown_setCell (p := ⟨w.heap.size, 1, none⟩) (grown_setCell (p := ⟨w.heap.size, 0, none⟩) gW (.inr (Nat.le_refl _)) (.int .i64 fe)) (.inr (Nat.le_refl _)) (.int .i64 fv)
    have HN := Lib.hid (show RNextR w g done n R k1 A1 n1 c1 k2 A2 n2 c2 p r (.returned (.tuple #[.string ⟨o.toArray⟩, .agg #[.int .i64 fe, .int .i64 fv]])) ((w6.setCell ⟨w.heap.size, 0, none⟩ (.int .i64 fe)).setCell ⟨w.heap.size, 1, none⟩ (.int .i64 fv)) from
      ⟨hN6.1, gF, fun h => ((hN6.2.2.1 h).far (by show g ≠ w.heap.size; exact hneR.out.symm) _).far (by show g ≠ w.heap.size; exact hneR.out.symm) _, fun h => ((hN6.2.2.2 h).far (by show g ≠ w.heap.size; exact hneR.out.symm) _).far (by show g ≠ w.heap.size; exact hneR.out.symm) _⟩)
    clear hN6 gF gW
    go_wp2
    exact bodyPost_ret (v := .tuple #[.string ⟨o.toArray⟩, .agg #[.int .i64 fe, .int .i64 fv]]) (by simp [results, Tryd.results35, go_sem] at d0 d1 ⊢; simp [d0, d1]) rfl (by rw [← Hr.out]; exact HN.out)

/-- what Close leaves -/
def RCloseR (w : World) (g done : Nat) (r : Except (Int × Nat) (List UInt8)) (e : Ending) (w' : World) : Prop :=
  e = .returned (.tuple #[.string ⟨(oT r).toArray⟩, .agg #[.int .i64 (eT r), .int .i64 (if eT r = 0 then 0 else ((done + iT r : Nat) : Int))]]) ∧ w.grownBy w' (some g) ∧ ∃ cs : Array Value, Blk w' g 97 cs ∧ cs[5]? = some (.bool false)

set_option maxRecDepth 100000 in
set_option maxHeartbeats 4000000 in
theorem rclose_any (g done : Nat) (rest : List UInt8) (k1 : Int) (A1 : Option Addr) (n1 c1 : Nat) (q1 : List Int) (k2 : Int) (A2 : Option Addr) (n2 c2 : Nat) (q2 : List Int) (p : Int) (w : World)
    (hB : Blk w g 97 (rstV rest done true k1 A1 n1 c1 k2 A2 n2 c2 p)) (hS : StrG w g k1 A1 n1 q1 k2 A2 n2 q2 p) (hl : rest.length + done ≤ 100000) :
    Calls Tryd.prog 34 #[.pointer (some ⟨g, 0, none⟩)] w fun e w' => RCloseR w g done (convK (cdOf k1 q1) (cdOf k2 q2) p rest) e w' := by
  obtain ⟨W, hW⟩ : ∃ W, W = w.alloc (.cells #[.int .i64 0, .int .i64 0] 37) := ⟨_, rfl⟩
  have bn : Below w.heap.size w W := by rw [hW]; exact below_new _ _
  have hRV : Blk W w.heap.size 37 #[.int .i64 0, .int .i64 0] := by rw [hW]; exact Blk.new _ _ _
  have hgl := hB.lt
  have HGW := Lib.hid (hB.stay bn)
  have HSW := Lib.hid (hS.below bn)
  have HRV := Lib.hid hRV
  have HgW := Lib.hid (grown_of_below bn (some g))
  clear bn hRV hB hS
  have Hlt := Lib.hid (HRV.out.lt)
  obtain ⟨r, hr⟩ : ∃ r, r = convK (cdOf k1 q1) (cdOf k2 q2) p rest := ⟨_, rfl⟩
  have Hr := Lib.hid hr
  rw [← hr]
  obtain ⟨o, ho⟩ : ∃ o, o = oT r := ⟨_, rfl⟩
  obtain ⟨fe, hfe⟩ : ∃ o, o = eT r := ⟨_, rfl⟩
  obtain ⟨fv, hfv⟩ : ∃ x : Int, x = (if eT r = 0 then 0 else ((done + iT r : Nat) : Int)) := ⟨_, rfl⟩
  have HO := Lib.hid (And.intro ho (And.intro hfe hfv))
  clear hr ho hfe hfv
  have hneR : w.heap.size ≠ g := by omega
  have i5 : W.cell? ⟨g, 5, none⟩ = some (.bool true) := HGW.out.cell 5
  have i7 : W.cell? ⟨g, 7, none⟩ = some (.string ⟨rest.toArray⟩) := HGW.out.cell 7
  rw [hW] at i5 i7
  go_enter Tryd.func34, Tryd.ntmps34
  go_wp2_with fail
  rw [← hW]
  clear hW i5 i7
  refine (rconvert_any g rest.length done rest k1 A1 n1 c1 q1 k2 A2 n2 c2 q2 p W HGW.out HSW.out (Nat.le_refl _) hl).mono ?_
  intro e w6 hN
  rw [List.take_length, ← Hr.out] at hN
  obtain ⟨ho, hfe, hfv⟩ := HO.out
  have he : e = .returned (.tuple #[.string ⟨o.toArray⟩, .agg #[.int .i64 fe, .int .i64 fv]]) := by rw [hN.1, ho, hfe, hfv]
  subst he
  have hst : ∃ (rest' : List UInt8) (d : Nat) (op : Bool), Blk w6 g 97 (rstV rest' d op k1 A1 n1 c1 k2 A2 n2 c2 p) := by
    by_cases h0 : eT r = 0
    · exact ⟨_, _, _, hN.2.2.1 h0⟩
    · exact ⟨_, _, _, hN.2.2.2 h0⟩
  obtain ⟨rest', d', op, hB6⟩ := hst
  have hRV6 := HRV.out.grownS hN.2.1 hneR
  have gW := grown_trans HgW.out hN.2.1
  clear hN ho hfe hfv HgW HRV HSW HGW
  have hNl : w.heap.size < w6.heap.size := hRV6.lt
  obtain ⟨V, hV⟩ : ∃ V, V = w6.alloc (.cells #[.int .i64 fe, .int .i64 fv] 37) := ⟨_, rfl⟩
  have hNV : Blk V w6.heap.size 37 #[.int .i64 fe, .int .i64 fv] := by rw [hV]; exact Blk.new _ _ _
  have hBV : Blk V g 97 (rstV rest' d' op k1 A1 n1 c1 k2 A2 n2 c2 p) := by rw [hV]; exact hB6.alloc _
  have hRV7 : Blk V w.heap.size 37 #[.int .i64 0, .int .i64 0] := by rw [hV]; exact hRV6.alloc _
  have gV : w.grownBy V (some g) := by rw [hV]; exact grown_alloc gW _
  have e5 := hBV.frozen 5
  have c5 : V.cell? ⟨g, 5, none⟩ = some (.bool op) := hBV.cell 5
  have hgN : g ≠ w6.heap.size := by omega
  have hneN : w.heap.size ≠ w6.heap.size := by omega
  have hB8 := hBV.set_ 5 (.bool false)
  rw [rstV_made] at hB8
  have hN8 := hNV.far (p := ⟨g, 5, none⟩) hgN.symm (.bool false)
  have hR8 := hRV7.far (p := ⟨g, 5, none⟩) hneR (.bool false)
  have g8 := grown_setCell (p := ⟨g, 5, none⟩) gV (.inl rfl) (.bool false)
  have HB8 := Lib.hid hB8
  have HN8 := Lib.hid hN8
  have HR8 := Lib.hid hR8
  have G8 := Lib.hid g8
  have HneN : Hid (w6.heap.size ≠ w.heap.size) := Lib.hid hneN.symm
  clear hB8 hN8 hR8 g8 hNV hBV hRV7 gV hB6 hRV6 gW
  rw [hV] at e5 c5
  go_wp2_with fail
  clear e5 c5
  rw [← hV]
  clear hV
  generalize V.setCell ⟨g, 5, none⟩ (.bool false) = Z at HB8 HN8 HR8 G8 ⊢
  generalize w6.heap.size = N at HN8 HneN hgN hneN hNl ⊢
  have K2 := Lib.hid (show ∀ u, Blk u N 37 #[.int .i64 fe, .int .i64 fv] → u.cell? ⟨N, 0, none⟩ = some (.int .i64 fe) ∧ u.cell? ⟨N, 1, none⟩ = some (.int .i64 fv) from fun u h => ⟨h.cell 0, h.cell 1⟩)
  have HNd := Lib.hid (show Blk Z.drew N 37 #[.int .i64 fe, .int .i64 fv] from HN8.out)
  have z0 := HR8.out.cell 0
  have z1 := HR8.out.cell 1
  have f0 := HR8.out.frozen 0
  have f1 := HR8.out.frozen 1
  go_region_held3 (fun u => u.cell? ⟨N, 0, none⟩ = some (.int .i64 fe) ∧ u.cell? ⟨N, 1, none⟩ = some (.int .i64 fv)) (first | exact K2.out _ HNd.out | exact K2.out _ ((HNd.out.far (p := ⟨w.heap.size, 0, none⟩) HneN.out _).far (p := ⟨w.heap.size, 1, none⟩) HneN.out _)) (first | (go_at_call 83; fail))
  have hFz : Blk ((Z.setCell ⟨w.heap.size, 0, none⟩ (.int .i64 fe)).setCell ⟨w.heap.size, 1, none⟩ (.int .i64 fv)).drew w.heap.size 37 #[.int .i64 fe, .int .i64 fv] := (HR8.out.set_ 0 (.int .i64 fe)).set_ 1 (.int .i64 fv)
  have hGz : Blk ((Z.setCell ⟨w.heap.size, 0, none⟩ (.int .i64 fe)).setCell ⟨w.heap.size, 1, none⟩ (.int .i64 fv)).drew g 97 (rstV rest' d' false k1 A1 n1 c1 k2 A2 n2 c2 p) := (HB8.out.far (p := ⟨w.heap.size, 0, none⟩) (by simpa using hneR.symm) (.int .i64 fe)).far (p := ⟨w.heap.size, 1, none⟩) (by simpa using hneR.symm) (.int .i64 fv)
  have gz := grown_drew (grown_setCell (p := ⟨w.heap.size, 1, none⟩) (grown_setCell (p := ⟨w.heap.size, 0, none⟩) G8.out (.inr (Nat.le_refl _)) (.int .i64 fe)) (.inr (Nat.le_refl _)) (.int .i64 fv))
  generalize ((Z.setCell ⟨w.heap.size, 0, none⟩ (.int .i64 fe)).setCell ⟨w.heap.size, 1, none⟩ (.int .i64 fv)).drew = Z2 at hFz hGz gz ⊢
  clear z0 z1 f0 f1
  go_wp2
  have d0 := hFz.cell 0
  have d1 := hFz.cell 1
  obtain ⟨ho, hfe, hfv⟩ := HO.out
  have HP : RCloseR w g done r (.returned (.tuple #[.string ⟨o.toArray⟩, .agg #[.int .i64 fe, .int .i64 fv]])) Z2 := ⟨by rw [ho, hfe, hfv], gz, _, hGz, rfl⟩
  exact bodyPost_ret (v := .tuple #[.string ⟨o.toArray⟩, .agg #[.int .i64 fe, .int .i64 fv]]) (by simp [results, Tryd.results34, go_sem] at d0 d1 ⊢; simp [d0, d1]) rfl HP
end Go.Proofs.YtbcbmmgfdobdiaaDoor
/- Both streams side by side: the program's and the reference's, call by call. -/
namespace Go.Proofs.YtbcbmmgfdobdiaaDoor
open Go.RowKit

theorem StrO.far {w w' : World} {g N b0 : Nat} {K L : Cd} {p : Int} {rest : List UInt8} {done : Nat} (h : StrO w g b0 K L p rest done) (hg : w.grownBy w' (some N)) (hl : g < N) : StrO w' g b0 K L p rest done := by
  obtain ⟨k1, A1, n1, c1, q1, k2, A2, n2, c2, q2, h1, h2, h3, h4, h5⟩ := h
  have rd : ∀ {A : Option Addr} {n : Nat} {xs : List Value}, Reads w g 1 A n xs → Reads w' g 1 A n xs := fun {A n xs} hr => hr.grown hg (Nat.le_of_lt h5.lt) (fun g' e => by injection e with e; omega)
  exact ⟨k1, A1, n1, c1, q1, k2, A2, n2, c2, q2, ⟨rd h1.1, rd h1.2.1, h1.2.2.1.grownB hg (by have := h1.2.2.2.1; omega), h1.2.2.2.1, Nat.lt_of_lt_of_le h1.2.2.2.2.1 hg.size, h1.2.2.2.2.2⟩, h2, h3, h4, h5.grownS hg (by omega)⟩
theorem StrC.far {w w' : World} {g N : Nat} (h : StrC w g) (hg : w.grownBy w' (some N)) (hl : g ≠ N) : StrC w' g := by
  obtain ⟨cs, h1, h2⟩ := h
  exact ⟨cs, h1.grownS hg hl, h2⟩
/-- the encodings as the caller holds them -/
def Enc2 (w : World) (B : Nat) (k1 : Int) (A1 : Option Addr) (n1 : Nat) (q1 : List Int) (k2 : Int) (A2 : Option Addr) (n2 : Nat) (q2 : List Int) (p : Int) : Prop :=
  Reads w B 1 A1 n1 (q1.map iv) ∧ Reads w B 1 A2 n2 (q2.map iv) ∧ Dig w ∧ 0 < B ∧ B ≤ w.heap.size ∧ CkE k1 q1 0 ∧ CkE k2 q2 0 ∧ 1 ≤ p ∧ p ≤ 4
theorem Enc2.grown {w w' : World} {B N : Nat} {k1 : Int} {A1 : Option Addr} {n1 : Nat} {q1 : List Int} {k2 : Int} {A2 : Option Addr} {n2 : Nat} {q2 : List Int} {p : Int} (h : Enc2 w B k1 A1 n1 q1 k2 A2 n2 q2 p) (hg : w.grownBy w' (some N)) (hN : B ≤ N) : Enc2 w' B k1 A1 n1 q1 k2 A2 n2 q2 p :=
  ⟨h.1.grown hg h.2.2.2.2.1 (fun g' e => by injection e with e; omega), h.2.1.grown hg h.2.2.2.2.1 (fun g' e => by injection e with e; omega), h.2.2.1.grownB hg (by have := h.2.2.2.1; omega), h.2.2.2.1, Nat.le_trans h.2.2.2.2.1 hg.size, h.2.2.2.2.2⟩
theorem Enc2.strG {w : World} {B g : Nat} {k1 : Int} {A1 : Option Addr} {n1 : Nat} {q1 : List Int} {k2 : Int} {A2 : Option Addr} {n2 : Nat} {q2 : List Int} {p : Int} (h : Enc2 w B k1 A1 n1 q1 k2 A2 n2 q2 p) (hb : B ≤ g) (hg : g < w.heap.size) : StrG w g k1 A1 n1 q1 k2 A2 n2 q2 p :=
  ⟨h.1.more hb, h.2.1.more hb, h.2.2.1, Nat.lt_of_lt_of_le h.2.2.2.1 hb, hg, h.2.2.2.2.2⟩
/-- the reference's stream, shut -/
def RStrC (w : World) (g : Nat) : Prop := ∃ cs : Array Value, Blk w g 97 cs ∧ cs[5]? = some (.bool false)
theorem RStrC.cell {w : World} {g : Nat} (h : RStrC w g) : w.cell? ⟨g, 5, none⟩ = some (.bool false) := by
  obtain ⟨cs, h1, h2⟩ := h
  rw [h1.cell 5, h2]
theorem RStrC.far {w w' : World} {g N : Nat} (h : RStrC w g) (hg : w.grownBy w' (some N)) (hl : g ≠ N) : RStrC w' g := by
  obtain ⟨cs, h1, h2⟩ := h
  exact ⟨cs, h1.grownS hg hl, h2⟩
/-- both streams, open with the same rest, or both shut -/
def Both (w : World) (g gr B b0 m : Nat) (k1 : Int) (A1 : Option Addr) (n1 c1 : Nat) (q1 : List Int) (k2 : Int) (A2 : Option Addr) (n2 c2 : Nat) (q2 : List Int) (p : Int) : Prop :=
  Enc2 w B k1 A1 n1 q1 k2 A2 n2 q2 p ∧ (B ≤ g ∧ g < gr ∧ gr < w.heap.size) ∧ ((∃ (rest : List UInt8) (done : Nat), StrO w g b0 (cdOf k1 q1) (cdOf k2 q2) p rest done ∧ Blk w gr 97 (rstV rest done true k1 A1 n1 c1 k2 A2 n2 c2 p) ∧ rest.length + done ≤ m) ∨ (StrC w g ∧ RStrC w gr))
theorem Both.far {w w' : World} {g gr B b0 m N : Nat} {k1 : Int} {A1 : Option Addr} {n1 c1 : Nat} {q1 : List Int} {k2 : Int} {A2 : Option Addr} {n2 c2 : Nat} {q2 : List Int} {p : Int} (h : Both w g gr B b0 m k1 A1 n1 c1 q1 k2 A2 n2 c2 q2 p) (hg : w.grownBy w' (some N)) (hN : gr < N) : Both w' g gr B b0 m k1 A1 n1 c1 q1 k2 A2 n2 c2 q2 p := by
  obtain ⟨h1, ⟨h2, h3, h4⟩, h5⟩ := h
  refine ⟨h1.grown hg (by omega), ⟨h2, h3, Nat.lt_of_lt_of_le h4 hg.size⟩, ?_⟩
  rcases h5 with ⟨rest, done, a, b, c⟩ | ⟨a, b⟩
  · exact .inl ⟨rest, done, a.far hg (by omega), b.grownS hg (by omega), c⟩
  · exact .inr ⟨a.far hg (by omega), b.far hg (by omega)⟩
theorem Both.lt {w : World} {g gr B b0 m : Nat} {k1 : Int} {A1 : Option Addr} {n1 c1 : Nat} {q1 : List Int} {k2 : Int} {A2 : Option Addr} {n2 c2 : Nat} {q2 : List Int} {p : Int} (h : Both w g gr B b0 m k1 A1 n1 c1 q1 k2 A2 n2 c2 q2 p) : gr < w.heap.size := h.2.1.2.2
/-- the reference's call that comes after the program's: the same result -/
def Ref2 (fn : Nat) (args : Array Value) (w : World) (g gr B b0 m : Nat) (k1 : Int) (A1 : Option Addr) (n1 c1 : Nat) (q1 : List Int) (k2 : Int) (A2 : Option Addr) (n2 c2 : Nat) (q2 : List Int) (p : Int) (t : List UInt8) (fe fv : Int) : Prop :=
  ∀ (N : Nat) (v : World), w.grownBy v (some N) → gr < N → Calls Tryd.prog fn args v fun e v' => e = .returned (.tuple #[.string ⟨t.toArray⟩, .agg #[.int .i64 fe, .int .i64 fv]]) ∧ v.grownBy v' (some gr) ∧ Both v' g gr B b0 m k1 A1 n1 c1 q1 k2 A2 n2 c2 q2 p
theorem both_shut {w v v' : World} {g gr B b0 m N : Nat} {k1 : Int} {A1 : Option Addr} {n1 c1 : Nat} {q1 : List Int} {k2 : Int} {A2 : Option Addr} {n2 c2 : Nat} {q2 : List Int} {p : Int} (h1 : Enc2 w B k1 A1 n1 q1 k2 A2 n2 q2 p) (h2 : B ≤ g ∧ g < gr) (hC : StrC w g) (hv : w.grownBy v (some N)) (hN : gr < N) (hv' : v.grownBy v' (some gr)) (hR : RStrC v' gr) : Both v' g gr B b0 m k1 A1 n1 c1 q1 k2 A2 n2 c2 q2 p := by
  have hl : gr < v'.heap.size := by obtain ⟨cs, h, _⟩ := hR; exact h.lt
  exact ⟨(h1.grown hv (by omega)).grown hv' (by omega), ⟨h2.1, h2.2, hl⟩, .inr ⟨(hC.far hv (by omega)).far hv' (by omega), hR⟩⟩
theorem both_write {w : World} {g gr B b0 m : Nat} (k1 : Int) (A1 : Option Addr) (n1 c1 : Nat) (q1 : List Int) (k2 : Int) (A2 : Option Addr) (n2 c2 : Nat) (q2 : List Int) (p : Int) (h : Both w g gr B b0 m k1 A1 n1 c1 q1 k2 A2 n2 c2 q2 p) (b : List UInt8) (hl : m + b.length ≤ 10000) :
    Calls Tryd.prog 19 #[.pointer (some ⟨g, 0, none⟩), .string ⟨b.toArray⟩] w fun e w' => ∃ (t : List UInt8) (fe fv : Int), e = .returned (.tuple #[.string ⟨t.toArray⟩, .agg #[.int .i64 fe, .int .i64 fv]]) ∧ w.grownBy w' (some g) ∧ Ref2 35 #[.pointer (some ⟨gr, 0, none⟩), .string ⟨b.toArray⟩] w' g gr B b0 (m + b.length) k1 A1 n1 c1 q1 k2 A2 n2 c2 q2 p t fe fv := by
  obtain ⟨h1, ⟨h2, h3, h4⟩, h5⟩ := h
  rcases h5 with ⟨rest, done, ⟨j1, B1, m1, d1, r1, j2, B2, m2, d2, r2, a1, a2, a3, a4, a5⟩, hR, hm⟩ | ⟨hC, hR⟩
  · refine (write_any g done rest b j1 B1 m1 d1 r1 j2 B2 m2 d2 r2 p w a5 a1 (by omega)).mono fun e w' hN => ?_
    rw [a2, a3] at hN
    obtain ⟨he, hg, hA, hB⟩ := hN
    refine ⟨_, _, _, he, hg, fun N v hv hN' => ?_⟩
    have hRw := hR.grownS hg (by omega)
    have hRv := hRw.grownS hv (by omega)
    have e1 := (h1.grown hg h2).grown hv (by omega)
    refine (rwrite_any gr done rest b k1 A1 n1 c1 q1 k2 A2 n2 c2 q2 p v hRv (e1.strG (by omega) hRv.lt) (by omega)).mono fun e2 v' hX => ?_
    obtain ⟨hx1, hx2, hx3, hx4⟩ := hX
    refine ⟨hx1, hx2, ?_⟩
    by_cases h0 : eT (convK (cdOf k1 q1) (cdOf k2 q2) p ((rest ++ b).take (certK (cdOf k1 q1) (rest ++ b).length (rest ++ b)))) = 0
    · have hn := certK_le (K := cdOf k1 q1) (rest ++ b).length (rest ++ b)
      rw [List.length_append] at hn
      refine ⟨e1.grown hx2 (by omega), ⟨h2, h3, (hx3 h0).lt⟩, .inl ⟨_, _, ?_, hx3 h0, ?_⟩⟩
      · exact (StrO.far (StrO.far ⟨j1, B1, m1, d1, r1, j2, B2, m2, d2, r2, a1.grown hg, a2, a3, a4, hA h0⟩ hv (by omega)) hx2 h3)
      · rw [List.length_drop, List.length_append]; omega
    · obtain ⟨d, _, hB⟩ := hB h0
      exact both_shut (h1.grown hg h2) ⟨h2, h3⟩ ⟨_, hB, rfl⟩ hv hN' hx2 ⟨_, hx4 h0, rfl⟩
  · refine (write_shut g b w hC.cell hC.lt).mono fun e w' ⟨he, hb⟩ => ?_
    have hg := grown_of_below hb (some g)
    refine ⟨[], 15, 0, he, hg, fun N v hv hN' => ?_⟩
    have hRw := (hR.far hg (by omega)).far hv (by omega)
    have hlv : gr < v.heap.size := by obtain ⟨cs, h, _⟩ := hRw; exact h.lt
    refine (rwrite_shut gr b v hRw.cell hlv).mono fun e2 v' ⟨he2, hb2⟩ => ?_
    have hg2 := grown_of_below hb2 (some gr)
    obtain ⟨cs, hcs, hc5⟩ := hRw
    exact ⟨he2, hg2, both_shut (h1.grown hg h2) ⟨h2, h3⟩ (hC.stay hb) hv hN' hg2 ⟨cs, hcs.stay hb2, hc5⟩⟩
theorem both_close {w : World} {g gr B b0 m : Nat} (k1 : Int) (A1 : Option Addr) (n1 c1 : Nat) (q1 : List Int) (k2 : Int) (A2 : Option Addr) (n2 c2 : Nat) (q2 : List Int) (p : Int) (h : Both w g gr B b0 m k1 A1 n1 c1 q1 k2 A2 n2 c2 q2 p) (m2' : Nat) (hl : m ≤ 10000) :
    Calls Tryd.prog 20 #[.pointer (some ⟨g, 0, none⟩)] w fun e w' => ∃ (t : List UInt8) (fe fv : Int), e = .returned (.tuple #[.string ⟨t.toArray⟩, .agg #[.int .i64 fe, .int .i64 fv]]) ∧ w.grownBy w' (some g) ∧ Ref2 34 #[.pointer (some ⟨gr, 0, none⟩)] w' g gr B b0 m2' k1 A1 n1 c1 q1 k2 A2 n2 c2 q2 p t fe fv := by
  obtain ⟨h1, ⟨h2, h3, h4⟩, h5⟩ := h
  rcases h5 with ⟨rest, done, ⟨j1, B1, m1, d1, r1, j2, B2, m2, d2, r2, a1, a2, a3, a4, a5⟩, hR, hm⟩ | ⟨hC, hR⟩
  · refine (close_any g done rest j1 B1 m1 d1 r1 j2 B2 m2 d2 r2 p w a5 a1 (by omega)).mono fun e w' hN => ?_
    rw [a2, a3] at hN
    obtain ⟨he, hg, d, hB⟩ := hN
    refine ⟨_, _, _, he, hg, fun N v hv hN' => ?_⟩
    have hRw := hR.grownS hg (by omega)
    have hRv := hRw.grownS hv (by omega)
    have e1 := (h1.grown hg h2).grown hv (by omega)
    refine (rclose_any gr done rest k1 A1 n1 c1 q1 k2 A2 n2 c2 q2 p v hRv (e1.strG (by omega) hRv.lt) (by omega)).mono fun e2 v' hX => ?_
    obtain ⟨hx1, hx2, hx3⟩ := hX
    exact ⟨hx1, hx2, both_shut (h1.grown hg h2) ⟨h2, h3⟩ ⟨_, hB, rfl⟩ hv hN' hx2 hx3⟩
  · refine (close_shut g w hC.cell hC.lt).mono fun e w' ⟨he, hb⟩ => ?_
    have hg := grown_of_below hb (some g)
    refine ⟨[], 15, 0, he, hg, fun N v hv hN' => ?_⟩
    have hRw := (hR.far hg (by omega)).far hv (by omega)
    have hlv : gr < v.heap.size := by obtain ⟨cs, h, _⟩ := hRw; exact h.lt
    refine (rclose_shut gr v hRw.cell hlv).mono fun e2 v' ⟨he2, hb2⟩ => ?_
    have hg2 := grown_of_below hb2 (some gr)
    obtain ⟨cs, hcs, hc5⟩ := hRw
    exact ⟨he2, hg2, both_shut (h1.grown hg h2) ⟨h2, h3⟩ (hC.stay hb) hv hN' hg2 ⟨cs, hcs.stay hb2, hc5⟩⟩
theorem both_pend {w : World} {g gr B b0 m : Nat} (k1 : Int) (A1 : Option Addr) (n1 c1 : Nat) (q1 : List Int) (k2 : Int) (A2 : Option Addr) (n2 c2 : Nat) (q2 : List Int) (p : Int) (h : Both w g gr B b0 m k1 A1 n1 c1 q1 k2 A2 n2 c2 q2 p) : ∃ s : List UInt8,
    (Calls Tryd.prog 21 #[.pointer (some ⟨g, 0, none⟩)] w fun e w' => e = .returned (.string ⟨s.toArray⟩) ∧ w' = w) ∧ (Calls Tryd.prog 36 #[.pointer (some ⟨gr, 0, none⟩)] w fun e w' => e = .returned (.string ⟨s.toArray⟩) ∧ w' = w) := by
  obtain ⟨h1, ⟨h2, h3, h4⟩, h5⟩ := h
  rcases h5 with ⟨rest, done, hS, hR, hm⟩ | ⟨hC, hR⟩
  · obtain ⟨c2, c0⟩ := hS.cells
    exact ⟨rest, pending_open g rest w c2 c0, rpend_open gr rest w (hR.cell 5) (hR.cell 7)⟩
  · exact ⟨[], pending_closed g w hC.cell, rpend_shut gr w hR.cell⟩

/-- calls in memory -/
def ov (o : Bool × List UInt8) : List Value := [.bool o.1, .string ⟨o.2.toArray⟩]
theorem ov_at {l : List (Bool × List UInt8)} {k : Nat} {o : Bool × List UInt8} (h : l[k]? = some o) : (l.flatMap ov)[k * 2]? = some (.bool o.1) ∧ (l.flatMap ov)[k * 2 + 1]? = some (.string ⟨o.2.toArray⟩) := by
  induction l generalizing k with
  | nil => simp at h
  | cons x l ih =>
    cases k with
    | zero => simp at h; subst h; simp [ov]
    | succ k =>
      simp at h
      obtain ⟨h1, h2⟩ := ih h
      rw [show (k + 1) * 2 = k * 2 + 2 by omega, List.flatMap_cons]
      constructor
      · rw [show k * 2 + 2 = (ov x).length + k * 2 by simp [ov]; omega, List.getElem?_append_right (by omega), Nat.add_sub_cancel_left]; exact h1
      · rw [show k * 2 + 2 + 1 = (ov x).length + (k * 2 + 1) by simp [ov]; omega, List.getElem?_append_right (by omega), Nat.add_sub_cancel_left]; exact h2
theorem ov_len (l : List (Bool × List UInt8)) : (l.flatMap ov).length = l.length * 2 := by
  induction l with
  | nil => rfl
  | cons x l ih => rw [List.flatMap_cons, List.length_append, ih]; simp [ov]; omega
theorem Reads.op {w : World} {B n : Nat} {A : Option Addr} {l : List (Bool × List UInt8)} (h : Reads w B 2 A n (l.flatMap ov)) {k : Nat} (hk : k < n) :
    ∃ ad c s, A = some ad ∧ ad.block < B ∧ l[k]? = some (c, s) ∧ w.cell? (ad.add (k * 2)) = some (.bool c) ∧ w.cell? ⟨(ad.add (k * 2)).block, (ad.add (k * 2)).off + 1, none⟩ = some (.string ⟨s.toArray⟩) := by
  have hl : l.length = n := by have := h.1; rw [ov_len] at this; omega
  obtain ⟨ad, e, hb, hc⟩ := h.2 (by omega)
  have hkl : k < l.length := by omega
  have hx := List.getElem?_eq_getElem hkl
  obtain ⟨h1, h2⟩ := ov_at hx
  have h3 := hc _ _ h2
  have ha : ad.add (k * 2 + 1) = ⟨(ad.add (k * 2)).block, (ad.add (k * 2)).off + 1, none⟩ := by
    unfold Addr.add
    by_cases h0 : k * 2 = 0 <;> simp [h0, Nat.add_assoc]
  rw [ha] at h3
  exact ⟨ad, l[k].1, l[k].2, e, hb, hx, hc _ _ h1, h3⟩
end Go.Proofs.YtbcbmmgfdobdiaaDoor
/- The walk of ConvstreamPlays. -/
namespace Go.Proofs.YtbcbmmgfdobdiaaDoor
open Go.RowKit

theorem Tryd.info9p : (Tryd.prog.info? 9).map (fun i => (i.zero, i.size, i.bytes)) = some (some (.string ⟨#[]⟩), 1, 16) := by kernel_rfl
theorem stInv_start {K L : Cd} {p : Int} {rest : List UInt8} {done : Nat} (h : StInv K L p [] rest done []) : rest = [] ∧ done = 0 := by
  obtain ⟨h1, h2, _⟩ := h
  have h1' : done = 0 := by simpa using h1
  exact ⟨by rw [h2]; simp, h1'⟩
theorem snd_take {l : List (Bool × List UInt8)} {k : Nat} {c : Bool} {s : List UInt8} (h : l[k]? = some (c, s)) : ((l.take (k + 1)).map Prod.snd).map sv = ((l.take k).map Prod.snd).map sv ++ [.string ⟨s.toArray⟩] := by
  obtain ⟨hk, he⟩ := List.getElem?_eq_some_iff.1 h
  rw [List.take_succ_eq_append_getElem hk, he]; simp [sv]

set_option maxRecDepth 100000 in
set_option maxHeartbeats 4000000 in
theorem wk_plays (k1 : Int) (A1 : Option Addr) (n1 c1 : Nat) (q1 : List Int) (k2 : Int) (A2 : Option Addr) (n2 c2 : Nat) (q2 : List Int) (p : Int) (Al : Option Addr) (nl cl : Nat) (l : List (Bool × List UInt8)) (w : World) (h1 : Reads w w.heap.size 1 A1 n1 (q1.map iv)) (h2 : Reads w w.heap.size 1 A2 n2 (q2.map iv)) (hr : Reads w w.heap.size 2 Al nl (l.flatMap ov)) (hl : ∀ o ∈ l, o.2.length ≤ 140737488355328) (hd : Dig w) :
    Calls Tryd.prog 11 #[.agg #[.int .i64 k1, .slice A1 n1 c1, .int .i64 k2, .slice A2 n2 c2, .int .i64 p], .slice Al nl cl] w fun e w' => e = .returned (.bool true) ∧ Below w.heap.size w w' := by
  have bn := below_new w (.cells #[.int .i64 k1, .slice A1 n1 c1, .int .i64 k2, .slice A2 n2 c2, .int .i64 p] 28)
  have HB := Lib.hid (Blk.new w 28 #[.int .i64 k1, .slice A1 n1 c1, .int .i64 k2, .slice A2 n2 c2, .int .i64 p])
  have H1 := Lib.hid ((h1.below bn).more bn.size)
  have H2 := Lib.hid ((h2.below bn).more bn.size)
  have HR := Lib.hid ((hr.below bn).more bn.size)
  have HD := Lib.hid (hd.below bn)
  have HL := Lib.hid bn
  have Hl := Lib.hid hl
  have Hnl := Lib.hid (show l.length = nl by have := hr.1; rw [ov_len] at this; omega)
  have hdl := hd.lt
  clear bn h1 h2 hr hd hl
  obtain ⟨i0, hi, hz0, hz1, hz2⟩ := info_parts Tryd.info9p
  go_enter Tryd.func11, Tryd.ntmps11
  go_wp2_with fail
  obtain ⟨W, hW⟩ : ∃ W, W = (w.alloc (.cells #[.int .i64 k1, .slice A1 n1 c1, .int .i64 k2, .slice A2 n2 c2, .int .i64 p] 28)) := ⟨_, rfl⟩
  have hWs : W.heap.size = w.heap.size + 1 := by rw [hW]; simp
  rw [← hW] at HB H1 H2 HR HD HL ⊢
  clear hW
  go_loopw [5, 6] (fun o i wr => ∃ (k : Nat), k ≤ nl ∧ k ≤ 20 ∧ i = .int .i64 (k : Int) ∧ wr.ownsRow W.heap.size 9 1 o k (((l.take k).map Prod.snd).map sv) ∧ Hid (Below W.heap.size W wr)) (fun _ i _ => 20 - (intOf i).toNat)
  case atStart => exact ⟨0, by omega, by omega, rfl, by simpa using World.ownsRow_nil _ _ _ _, Lib.hid (Below.refl _ _)⟩
  case round =>
    obtain ⟨k, hk, hk20, rfl, ho, Hb⟩ := hrel
    by_cases hc : k < nl ∧ k < 20
    · obtain ⟨hc1, hc2⟩ := hc
      obtain ⟨ad, c, s, rfl, hadl, hs, hcB, hcS⟩ := (HR.out.below Hb.out).op hc1
      have Hs := Lib.hid (snd_take hs)
      have h1i : (k : Int) < (nl : Int) := by omega
      have h2i : (k : Int) < 20 := by omega
      have hsz := Hb.out.size
      clear hs
      go_wp2_with (at_builtin; go_must (refine wpList_app1 rfl (.tmp 26) (.tmp 32) 29 rfl Tryd.underlying29 hi hz0 hz1 hz2 rfl (by omega) wr u5 _ _ rfl ho _ rfl rfl (by omega) hsz ?_); intro v3 w5 ho3 hB3 _)
      rw [← Hs.out] at ho3
      go_roundw
      case rel => exact ⟨k + 1, by omega, by omega, by go_num, ho3, Lib.hid (Hb.out.trans hB3)⟩
      case measure => simp [intOf]; omega
    · obtain ⟨Ay, cy, rfl, _, hry⟩ := val_of_own ho
      have Hry := Lib.hid hry
      have Hls := Lib.hid (show ∀ s ∈ (l.take k).map Prod.snd, s.length ≤ 140737488355328 from fun s hs => by
        obtain ⟨o, ho, rfl⟩ := List.mem_map.1 hs
        exact Hl.out o (List.mem_of_mem_take ho))
      have Hkk := Lib.hid (show few8 ((l.take k).map Prod.snd) n1 n2 = true → k = nl ∧ nl ≤ 12 by
        intro hf
        have := (few8_true hf).1
        rw [List.length_map, List.length_take, Hnl.out] at this
        omega)
      have Hcc := Lib.hid hc
      clear ho hry
      have BB := Hb
      clear Hb
      have HBc := Lib.hid (HB.out.stay BB.out)
      have g0 := HBc.out.cell 0
      have g1 := HBc.out.cell 1
      have g2 := HBc.out.cell 2
      have g3 := HBc.out.cell 3
      have g4 := HBc.out.cell 4
      have hcond : (k : Int) < (nl : Int) ∧ ¬ (k : Int) < 20 ∨ ¬ (k : Int) < (nl : Int) := by omega
      clear hc
      rcases hcond with ⟨hq1, hq2⟩ | hq1
      · have Hff := Lib.hid (show few8 ((l.take k).map Prod.snd) n1 n2 = false by
          cases hf : few8 ((l.take k).map Prod.snd) n1 n2 with
          | false => rfl
          | true => have := Hkk.out hf; omega)
        go_wp2_with fail
        clear g0 g1 g2 g3 g4
        refine (few8_any k1 A1 n1 c1 k2 A2 n2 c2 p Ay k cy _ wr Hry.out Hls.out).mono ?_
        rintro x w1 ⟨rfl, hb1⟩
        rw [Hff.out]
        replace BB := Lib.hid (BB.out.trans (hb1.mono BB.out.size))
        clear hb1
        go_wp2_with fail
        refine (alive_any _ (HD.out.below BB.out)).mono ?_
        rintro x w9 ⟨rfl, hb9⟩
        go_wp2
        go_ret
        exact ⟨rfl, HL.out.trans ((BB.out.trans (hb9.mono BB.out.size)).mono HL.out.size)⟩
      obtain rfl : k = nl := by omega
      go_wp2_with fail
      clear g0 g1 g2 g3 g4
      refine (few8_any k1 A1 n1 c1 k2 A2 n2 c2 p Ay k cy _ wr Hry.out Hls.out).mono ?_
      rintro x w1 ⟨rfl, hb1⟩
      replace BB := Lib.hid (BB.out.trans (hb1.mono BB.out.size))
      clear hb1 hq1 Hry Hls
      have HLt := Lib.hid (show l.take k = l from List.take_of_length_le (by rw [Hnl.out]; omega))
      rw [HLt.out] at Hkk ⊢
      cases hfew : few8 (l.map Prod.snd) n1 n2 with
      | false =>
        clear hfew
        go_wp2_with fail
        refine (alive_any _ (HD.out.below BB.out)).mono ?_
        rintro x w9 ⟨rfl, hb9⟩
        go_wp2
        go_ret
        exact ⟨rfl, HL.out.trans ((BB.out.trans (hb9.mono BB.out.size)).mono HL.out.size)⟩
      | true =>
        obtain ⟨_, hf2, hf3, hf4⟩ := few8_true hfew
        obtain ⟨_, hf1⟩ := Hkk.out hfew
        clear hfew Hkk HLt
        have HBc := Lib.hid (HB.out.stay BB.out)
        have g0 := HBc.out.cell 0
        have g1 := HBc.out.cell 1
        have g2 := HBc.out.cell 2
        have g3 := HBc.out.cell 3
        have g4 := HBc.out.cell 4
        go_wp2_with fail
        clear g0 g1 g2 g3 g4
        clear HBc
        have X1 := Lib.hid ((H1.out.below BB.out).up BB.out.size)
        have X2 := Lib.hid ((H2.out.below BB.out).up BB.out.size)
        obtain ⟨e1, hC1⟩ := CkE_some k1 q1
        obtain ⟨e2, hC2⟩ := CkE_some k2 q2
        by_cases hgood : e1 = 0 ∧ e2 = 0 ∧ 1 ≤ p ∧ p ≤ 4
        rotate_left
        · refine (start_bad k1 A1 n1 c1 q1 k2 A2 n2 c2 q2 p e1 e2 w1 X1.out X2.out hC1 hC2 hgood).mono ?_
          rintro x w2 ⟨rfl, hb2⟩
          replace BB := Lib.hid (BB.out.trans (hb2.mono BB.out.size))
          clear hb2
          clear hC1 hC2 hgood X1 X2
          go_wp2_with fail
          refine (alive_any _ (HD.out.below BB.out)).mono ?_
          rintro x w9 ⟨rfl, hb9⟩
          go_wp2
          go_ret
          exact ⟨rfl, HL.out.trans ((BB.out.trans (hb9.mono BB.out.size)).mono HL.out.size)⟩
        obtain ⟨rfl, rfl, hp1, hp4⟩ := hgood
        refine (start_good k1 A1 n1 c1 q1 k2 A2 n2 c2 q2 p w1 X1.out X2.out hC1 hC2 hp1 hp4 (HD.out.below BB.out)).mono ?_
        rintro x w2 ⟨g, b0, rfl, ⟨hb0, hS⟩, hb2⟩
        have HC1 := Lib.hid hC1
        have HC2 := Lib.hid hC2
        have hgW : W.heap.size ≤ g := by have := hS.ge; have := BB.out.size; omega
        have hgl := hS.lt
        have HS := Lib.hid hS
        replace BB := Lib.hid (BB.out.trans (hb2.mono BB.out.size))
        clear hb2
        clear hS hC1 hC2 X1 X2
        have HBc := Lib.hid (HB.out.stay BB.out)
        have g0 := HBc.out.cell 0
        have g1 := HBc.out.cell 1
        have g2 := HBc.out.cell 2
        have g3 := HBc.out.cell 3
        have g4 := HBc.out.cell 4
        go_wp2_with fail
        clear g0 g1 g2 g3 g4
        clear HBc
        refine (rnew_good k1 A1 n1 c1 q1 k2 A2 n2 c2 q2 p w2 ((H1.out.below BB.out).up BB.out.size) ((H2.out.below BB.out).up BB.out.size) HC1.out HC2.out hp1 hp4).mono ?_
        rintro x w3 ⟨⟨gr, rfl, hgr, hRB⟩, hb3⟩
        have hbo : Both w3 g gr W.heap.size b0 0 k1 A1 n1 c1 q1 k2 A2 n2 c2 q2 p := by
          obtain ⟨rest, done, hSO, hI, _⟩ := HS.out
          obtain ⟨rfl, rfl⟩ := stInv_start hI
          have hbb := BB.out.trans (hb3.mono BB.out.size)
          exact ⟨⟨H1.out.below hbb, H2.out.below hbb, HD.out.below hbb, by omega, hbb.size, HC1.out, HC2.out, hp1, hp4⟩, ⟨hgW, by omega, hRB.lt⟩, .inl ⟨[], 0, hSO.stay hb3, hRB, by simp⟩⟩
        have HBo := Lib.hid hbo
        have hggr : g < gr := by omega
        replace BB := Lib.hid (BB.out.trans (hb3.mono BB.out.size))
        clear hbo hRB hb3 HS hgr hgl
        have HB2 := Lib.hid BB.out
        go_wp2_with fail
        go_loopw [11] (fun i wr => ∃ (j : Nat), j ≤ k ∧ i = .int .i64 (j : Int) ∧ Hid (Both wr g gr W.heap.size b0 ((l.map Prod.snd).take j).flatten.length k1 A1 n1 c1 q1 k2 A2 n2 c2 q2 p) ∧ Hid (Below W.heap.size W wr)) (fun i _ => k - (intOf i).toNat)
        case atStart => exact ⟨0, by omega, rfl, by simpa using HBo, HB2⟩
        case round =>
          obtain ⟨j, hj, rfl, HBr, Hb⟩ := hrel
          clear HBo HB2 BB
          have BB := Hb
          clear Hb
          by_cases h1 : j < k
          · obtain ⟨ad, c, s, rfl, hadl, hs, hcB, hcS⟩ := (HR.out.below BB.out).op h1
            have hsj : (l.map Prod.snd)[j]? = some s := by rw [List.getElem?_map, hs]; rfl
            have Hf := Lib.hid (show ((l.map Prod.snd).take (j + 1)).flatten.length = ((l.map Prod.snd).take j).flatten.length + s.length by rw [flat_succ hsj, List.length_append])
            have hfj := flat_le (l.map Prod.snd) (j + 1)
            rw [Hf.out] at hfj
            clear hs hsj
            have h1i : (j : Int) < (k : Int) := by omega
            obtain ⟨V, hV⟩ : ∃ V, V = (wr.alloc (.cells #[.int .i64 0, .int .i64 0] 37)).alloc (.cells #[.int .i64 0, .int .i64 0] 37) := ⟨_, rfl⟩
            have bV : Below wr.heap.size wr V := by rw [hV]; exact ((Below.refl _ _).alloc (Nat.le_refl _) _).alloc (by simp) _
            have hN1 : Blk V wr.heap.size 37 #[.int .i64 0, .int .i64 0] := by rw [hV]; exact (Blk.new _ _ _).alloc _
            have hN2 : Blk V (wr.heap.size + 1) 37 #[.int .i64 0, .int .i64 0] := by
              have := Blk.new (wr.alloc (.cells #[.int .i64 0, .int .i64 0] 37)) 37 #[.int .i64 0, .int .i64 0]
              rw [hV]
              simpa using this
            have hgrl := HBr.out.lt
            have HBV := Lib.hid (HBr.out.far (grown_of_below bV (some wr.heap.size)) hgrl)
            have BV := Lib.hid (BB.out.trans (bV.mono BB.out.size))
            have hcB' : V.cell? (ad.add (j * 2)) = some (.bool c) := by rw [← hcB]; exact Below.cell bV (p := ad.add (j * 2)) (by rw [block_of_add]; have := BB.out.size; omega)
            have hcS' : V.cell? ⟨(ad.add (j * 2)).block, (ad.add (j * 2)).off + 1, none⟩ = some (.string ⟨s.toArray⟩) := by
              rw [← hcS]; exact Below.cell bV (p := ⟨(ad.add (j * 2)).block, (ad.add (j * 2)).off + 1, none⟩) (by rw [block_of_add]; have := BB.out.size; omega)
            have HN1 := Lib.hid hN1
            have HN2 := Lib.hid hN2
            have hne1 : g ≠ wr.heap.size := by omega
            have hne2 : g ≠ wr.heap.size + 1 := by omega
            have HcS := Lib.hid hcS'
            have hWr := BB.out.size
            clear hN1 hN2 bV hcB hcS HBr BB
            rw [hV] at hcB' hcS'
            cases c with
            | true =>
              go_wp2_with fail
              rw [← hV]
              clear hV hcB' hcS'
              refine (both_close k1 A1 n1 c1 q1 k2 A2 n2 c2 q2 p HBV.out (((l.map Prod.snd).take j).flatten.length + s.length) (by omega)).mono ?_
              rintro e w5 ⟨t, fe, fv, rfl, hg5, hX⟩
              have HX := Lib.hid hX
              have hM1 := HN1.out.grownS hg5 hne1.symm
              have hM2 := HN2.out.grownS hg5 hne2.symm
              have z0 := hM1.cell 0
              have z1 := hM1.cell 1
              have f0 := hM1.frozen 0
              have f1 := hM1.frozen 1
              have HM1 := Lib.hid ((hM1.set_ 0 (.int .i64 fe)).set_ 1 (.int .i64 fv))
              have HM2 := Lib.hid ((hM2.far (p := ⟨wr.heap.size, 0, none⟩) (by show wr.heap.size + 1 ≠ wr.heap.size; omega) (.int .i64 fe)).far (p := ⟨wr.heap.size, 1, none⟩) (by show wr.heap.size + 1 ≠ wr.heap.size; omega) (.int .i64 fv))
              have HgF := Lib.hid (grown_setCell (p := ⟨wr.heap.size, 1, none⟩) (grown_setCell (p := ⟨wr.heap.size, 0, none⟩) (grownS_refl w5 wr.heap.size) (.inl rfl) (.int .i64 fe)) (.inl rfl) (.int .i64 fv))
              have BF := Lib.hid (((BV.out.trans (below_of_grown hg5 hgW BV.out.size)).setCell (p := ⟨wr.heap.size, 0, none⟩) hWr (.int .i64 fe)).setCell (p := ⟨wr.heap.size, 1, none⟩) hWr (.int .i64 fv))
              clear hX hg5 hM1 hM2
              go_wp2_with fail
              refine (HX.out wr.heap.size _ HgF.out hgrl).mono ?_
              rintro e w6 ⟨rfl, hg6, hB6⟩
              have hL1 := HM1.out.grownS hg6 (by omega)
              have hL2 := HM2.out.grownS hg6 (by omega)
              clear z0 z1 f0 f1
              have z0 := hL2.cell 0
              have z1 := hL2.cell 1
              have f0 := hL2.frozen 0
              have f1 := hL2.frozen 1
              have HL2 := Lib.hid ((hL2.set_ 0 (.int .i64 fe)).set_ 1 (.int .i64 fv))
              have HL1 := Lib.hid ((hL1.far (p := ⟨wr.heap.size + 1, 0, none⟩) (by show wr.heap.size ≠ wr.heap.size + 1; omega) (.int .i64 fe)).far (p := ⟨wr.heap.size + 1, 1, none⟩) (by show wr.heap.size ≠ wr.heap.size + 1; omega) (.int .i64 fv))
              have gF := grown_setCell (p := ⟨wr.heap.size + 1, 1, none⟩) (grown_setCell (p := ⟨wr.heap.size + 1, 0, none⟩) (grownS_refl w6 (wr.heap.size + 1)) (.inl rfl) (.int .i64 fe)) (.inl rfl) (.int .i64 fv)
              have HB7 := Lib.hid (hB6.far gF (by omega))
              have BG := Lib.hid (((BF.out.trans (below_of_grown hg6 (Nat.le_trans hgW (Nat.le_of_lt hggr)) BF.out.size)).setCell (p := ⟨wr.heap.size + 1, 0, none⟩) (by show W.heap.size ≤ wr.heap.size + 1; omega) (.int .i64 fe)).setCell (p := ⟨wr.heap.size + 1, 1, none⟩) (by show W.heap.size ≤ wr.heap.size + 1; omega) (.int .i64 fv))
              clear hL1 hL2 gF hB6 hg6 HX HgF BF HM1 HM2
              obtain ⟨V2, hV2⟩ : ∃ V2, V2 = (w6.setCell ⟨wr.heap.size + 1, 0, none⟩ (.int .i64 fe)).setCell ⟨wr.heap.size + 1, 1, none⟩ (.int .i64 fv) := ⟨_, rfl⟩
              rw [← hV2] at HL1 HL2 HB7 BG
              have y0 : V2.cell? ⟨wr.heap.size, 0, none⟩ = some (.int .i64 fe) := HL1.out.cell 0
              have y1 : V2.cell? ⟨wr.heap.size, 1, none⟩ = some (.int .i64 fv) := HL1.out.cell 1
              have x0 : V2.cell? ⟨wr.heap.size + 1, 0, none⟩ = some (.int .i64 fe) := HL2.out.cell 0
              have x1 : V2.cell? ⟨wr.heap.size + 1, 1, none⟩ = some (.int .i64 fv) := HL2.out.cell 1
              rw [hV2] at y0 y1 x0 x1
              obtain ⟨sp, hp1', hp2'⟩ := both_pend k1 A1 n1 c1 q1 k2 A2 n2 c2 q2 p HB7.out
              have HP1 := Lib.hid hp1'
              have HP2 := Lib.hid hp2'
              clear hp1' hp2'
              go_wp2_with fail
              rw [← hV2]
              clear hV2 x0 x1 y0 y1
              refine HP1.out.mono ?_
              rintro e w7 ⟨rfl, rfl⟩
              go_wp2_with fail
              refine HP2.out.mono ?_
              rintro e w8 ⟨rfl, rfl⟩
              have HB8 := Lib.hid (show Both w8 g gr W.heap.size b0 ((l.map Prod.snd).take (j + 1)).flatten.length k1 A1 n1 c1 q1 k2 A2 n2 c2 q2 p by rw [Hf.out]; exact HB7.out)
              go_wp2
              go_roundw
              case rel => exact ⟨j + 1, by omega, by go_num, HB8, BG⟩
              case measure => simp [intOf]; omega
            | false =>
              go_wp2_with fail
              rw [← hV]
              clear hV hcB' hcS'
              refine (both_write k1 A1 n1 c1 q1 k2 A2 n2 c2 q2 p HBV.out s (by omega)).mono ?_
              rintro e w5 ⟨t, fe, fv, rfl, hg5, hX⟩
              have HX := Lib.hid hX
              have hM1 := HN1.out.grownS hg5 hne1.symm
              have hM2 := HN2.out.grownS hg5 hne2.symm
              have z0 := hM1.cell 0
              have z1 := hM1.cell 1
              have f0 := hM1.frozen 0
              have f1 := hM1.frozen 1
              have HM1 := Lib.hid ((hM1.set_ 0 (.int .i64 fe)).set_ 1 (.int .i64 fv))
              have HM2 := Lib.hid ((hM2.far (p := ⟨wr.heap.size, 0, none⟩) (by show wr.heap.size + 1 ≠ wr.heap.size; omega) (.int .i64 fe)).far (p := ⟨wr.heap.size, 1, none⟩) (by show wr.heap.size + 1 ≠ wr.heap.size; omega) (.int .i64 fv))
              have HgF := Lib.hid (grown_setCell (p := ⟨wr.heap.size, 1, none⟩) (grown_setCell (p := ⟨wr.heap.size, 0, none⟩) (grownS_refl w5 wr.heap.size) (.inl rfl) (.int .i64 fe)) (.inl rfl) (.int .i64 fv))
              have BF := Lib.hid (((BV.out.trans (below_of_grown hg5 hgW BV.out.size)).setCell (p := ⟨wr.heap.size, 0, none⟩) hWr (.int .i64 fe)).setCell (p := ⟨wr.heap.size, 1, none⟩) hWr (.int .i64 fv))
              clear hX hg5 hM1 hM2
              have hcS2 : ((w5.setCell ⟨wr.heap.size, 0, none⟩ (.int .i64 fe)).setCell ⟨wr.heap.size, 1, none⟩ (.int .i64 fv)).cell? ⟨(ad.add (j * 2)).block, (ad.add (j * 2)).off + 1, none⟩ = some (.string ⟨s.toArray⟩) := by
                have hx := (Below.cell BF.out (p := ⟨(ad.add (j * 2)).block, (ad.add (j * 2)).off + 1, none⟩) (by rw [block_of_add]; exact hadl)).trans (Below.cell BV.out (p := ⟨(ad.add (j * 2)).block, (ad.add (j * 2)).off + 1, none⟩) (by rw [block_of_add]; exact hadl)).symm
                rw [hx]; exact HcS.out
              go_wp2_with fail
              clear hcS2
              refine (HX.out wr.heap.size _ HgF.out hgrl).mono ?_
              rintro e w6 ⟨rfl, hg6, hB6⟩
              have hL1 := HM1.out.grownS hg6 (by omega)
              have hL2 := HM2.out.grownS hg6 (by omega)
              clear z0 z1 f0 f1
              have z0 := hL2.cell 0
              have z1 := hL2.cell 1
              have f0 := hL2.frozen 0
              have f1 := hL2.frozen 1
              have HL2 := Lib.hid ((hL2.set_ 0 (.int .i64 fe)).set_ 1 (.int .i64 fv))
              have HL1 := Lib.hid ((hL1.far (p := ⟨wr.heap.size + 1, 0, none⟩) (by show wr.heap.size ≠ wr.heap.size + 1; omega) (.int .i64 fe)).far (p := ⟨wr.heap.size + 1, 1, none⟩) (by show wr.heap.size ≠ wr.heap.size + 1; omega) (.int .i64 fv))
              have gF := grown_setCell (p := ⟨wr.heap.size + 1, 1, none⟩) (grown_setCell (p := ⟨wr.heap.size + 1, 0, none⟩) (grownS_refl w6 (wr.heap.size + 1)) (.inl rfl) (.int .i64 fe)) (.inl rfl) (.int .i64 fv)
              have HB7 := Lib.hid (hB6.far gF (by omega))
              have BG := Lib.hid (((BF.out.trans (below_of_grown hg6 (Nat.le_trans hgW (Nat.le_of_lt hggr)) BF.out.size)).setCell (p := ⟨wr.heap.size + 1, 0, none⟩) (by show W.heap.size ≤ wr.heap.size + 1; omega) (.int .i64 fe)).setCell (p := ⟨wr.heap.size + 1, 1, none⟩) (by show W.heap.size ≤ wr.heap.size + 1; omega) (.int .i64 fv))
              clear hL1 hL2 gF hB6 hg6 HX HgF BF HM1 HM2
              obtain ⟨V2, hV2⟩ : ∃ V2, V2 = (w6.setCell ⟨wr.heap.size + 1, 0, none⟩ (.int .i64 fe)).setCell ⟨wr.heap.size + 1, 1, none⟩ (.int .i64 fv) := ⟨_, rfl⟩
              rw [← hV2] at HL1 HL2 HB7 BG
              have y0 : V2.cell? ⟨wr.heap.size, 0, none⟩ = some (.int .i64 fe) := HL1.out.cell 0
              have y1 : V2.cell? ⟨wr.heap.size, 1, none⟩ = some (.int .i64 fv) := HL1.out.cell 1
              have x0 : V2.cell? ⟨wr.heap.size + 1, 0, none⟩ = some (.int .i64 fe) := HL2.out.cell 0
              have x1 : V2.cell? ⟨wr.heap.size + 1, 1, none⟩ = some (.int .i64 fv) := HL2.out.cell 1
              rw [hV2] at y0 y1 x0 x1
              obtain ⟨sp, hp1', hp2'⟩ := both_pend k1 A1 n1 c1 q1 k2 A2 n2 c2 q2 p HB7.out
              have HP1 := Lib.hid hp1'
              have HP2 := Lib.hid hp2'
              clear hp1' hp2'
              go_wp2_with fail
              rw [← hV2]
              clear hV2 x0 x1 y0 y1
              refine HP1.out.mono ?_
              rintro e w7 ⟨rfl, rfl⟩
              go_wp2_with fail
              refine HP2.out.mono ?_
              rintro e w8 ⟨rfl, rfl⟩
              have HB8 := Lib.hid (show Both w8 g gr W.heap.size b0 ((l.map Prod.snd).take (j + 1)).flatten.length k1 A1 n1 c1 q1 k2 A2 n2 c2 q2 p by rw [Hf.out]; exact HB7.out)
              go_wp2
              go_roundw
              case rel => exact ⟨j + 1, by omega, by go_num, HB8, BG⟩
              case measure => simp [intOf]; omega
          · have h1i : ¬ (j : Int) < (k : Int) := by omega
            go_wp2_with fail
            refine (alive_any _ (HD.out.below BB.out)).mono ?_
            rintro x w9 ⟨rfl, hb9⟩
            go_wp2
            go_ret
            exact ⟨rfl, HL.out.trans ((BB.out.trans (hb9.mono BB.out.size)).mono HL.out.size)⟩
end Go.Proofs.YtbcbmmgfdobdiaaDoor
