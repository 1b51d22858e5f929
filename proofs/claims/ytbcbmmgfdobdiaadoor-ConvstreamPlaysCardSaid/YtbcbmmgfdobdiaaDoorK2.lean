/- convert: the step of UTF-16 at four bytes. -/
import Derived.Test.YtbcbmmgfdobdiaaDoorK1
namespace Go.Proofs.YtbcbmmgfdobdiaaDoor
open Go.RowKit
/-- the world by what is known of it -/
theorem wpAny_gen {P : Program} {md : Region.Mode} {ops : Array Oper} {Q : Exit → Act → World → Prop} {fuel : Nat} {listed : Array Bool} {a : Act} {W : World} (p : World → Prop) (hp : p W) (h : ∀ W', p W' → wpAny P md ops Q fuel listed a W') : wpAny P md ops Q fuel listed a W := h W hp

set_option maxRecDepth 100000 in
set_option maxHeartbeats 4000000 in
theorem stepU16_no (big : Bool) (s : List UInt8) (a b c d : UInt8) (w : World) (hs : s.length ≤ 1000000) (ha : s[0]? = some a) (hb : s[1]? = some b) (hc : s[2]? = some c) (hd : s[3]? = some d) (h : sur (unit2 big a b) = true) (h5 : ¬ (unit2 big a b ≤ 56319 ∧ 56320 ≤ unit2 big c d ∧ unit2 big c d ≤ 57343)) (hdg : Dig w) :
    Calls Tryd.prog 131 #[.agg #[.bool big], .string ⟨s.toArray⟩] w fun e w' => e = .returned (trip64 (step16 big s)) ∧ Below w.heap.size w w' := by
  obtain ⟨Z, hZ⟩ : ∃ Z, Z = 65536 + (unit2 big a b - 55296) * 1024 + (unit2 big c d - 56320) := ⟨_, rfl⟩
  have He := Lib.hid ((step16_four ha hb hc hd).trans (show two16 (unit2 big a b) (unit2 big c d) = (0, 2, false) by rw [two16, if_pos h, if_neg h5]))
  have Hdec := Lib.hid ((dec16_two (unit2 big a b) (unit2 big c d) h).trans (show _ = ([], 9, 0) by rw [if_neg h5]))
  obtain ⟨h3, _⟩ := List.getElem?_eq_some_iff.1 hd
  have h' : ¬ (s.length : Int) < 2 := by omega
  have h4' : (4 : Int) ≤ (s.length : Int) := by omega
  have h2' : (2 : Int) ≤ (s.length : Int) := by omega
  have h2d : 2 ≤ s.length := by omega
  have hext := ext_drop s 2
  have hext2 : (⟨s.toArray⟩ : ByteArray).extract (Int.toNat 2) s.length = ⟨(s.drop 2).toArray⟩ := hext
  obtain ⟨hc2, hd2⟩ := drop2_at hc hd
  have Ha := Lib.hid ha
  have Hb := Lib.hid hb
  have Hc := Lib.hid hc2
  have Hd := Lib.hid hd2
  have hbl := Blk.new w 105 #[.bool big]
  have HB := Lib.hid (below_new w (.cells #[.bool big] 105))
  have hsr := surrB_nat (unit2 big a b)
  rw [h] at hsr
  have Hs := Lib.hid hsr
  clear ha hb hc hd hc2 hd2 h h5 hsr hZ
  go_enter Tryd.func131, Tryd.ntmps131
  go_wp2_with fail
  refine (unit16_any big s a b _ hs Ha.out Hb.out).mono ?_
  rintro e w1 ⟨rfl, hb1⟩
  have hbl1 := hbl.stay (by simpa using hb1)
  have HB1 := Lib.hid (HB.out.trans (hb1.mono (by simp)))
  clear hb1 hbl
  go_wp2_with fail
  refine (surr_any _ _).mono ?_
  rintro e w2 ⟨rfl, rfl⟩
  rw [Hs.out]
  go_wp2_with fail
  have K0 := Lib.hid (show ∀ w', Below w1.heap.size w1 w' → w'.cell? ⟨w.heap.size, 0, none⟩ = some (.bool big) from fun w' hb => (hbl1.stay hb).cell 0)
  have hdg1 : Dig w1 := hdg.below HB1.out
  have hbc : Below w1.heap.size w1 w1.drew := (Below.refl _ _).drew
  have hsz1 : w.heap.size ≤ w1.heap.size := HB1.out.size
  refine wp_region_any (by kernel_rfl) ?_
  change wpAny _ _ _ _ _ _ _ (World.drew _)
  refine wpAny_gen (p := fun W => Below w1.heap.size w1 W) (Below.refl _ _).drew ?_
  clear hbc
  intro w0 hbc
  refine wpAny_take (i := 0) (v := .int .i64 (unit2 big a b : Int)) rfl (by kernel_rfl) (by kernel_rfl) (by kernel_rfl) (fun _ _ _ h => h) (Or.inl ⟨by rfl, by intro w; go_simp⟩) ?_
  refine wpAny_take (i := 2) (v := .string ⟨s.toArray⟩) rfl (by kernel_rfl) (by kernel_rfl) (by kernel_rfl) (fun _ _ _ h => h) (Or.inl ⟨by rfl, by intro w; go_simp⟩) ?_
  refine wpAny_take (i := 3) (v := .string ⟨(s.drop 2).toArray⟩) rfl (by kernel_rfl) (by kernel_rfl) (by kernel_rfl) (fun _ _ _ h => h) (Or.inl ⟨by rfl, by intro w; go_simp⟩) ?_
  refine wpAny_ready (rs := [1, 10]) (by kernel_rfl) (by simp) ?_
  refine AllReady.cons rfl (fun K hK => ?_) ?_
  · have hcl := K0.out _ hbc
    go_simp
    clear hcl
    refine hK _ _ ?_
    clear hK K
    refine wpAny_ready (rs := [4, 10]) (by kernel_rfl) (by simp) ?_
    refine AllReady.cons rfl (fun K hK => ?_) ?_
    · go_simp
      refine (unit16_any big (s.drop 2) c d _ (by simp; omega) Hc.out Hd.out).mono ?_
      rintro e wu1 ⟨rfl, hbu⟩
      replace hbc := hbc.trans (hbu.mono hbc.size)
      refine hK _ _ ?_
      clear hK K
      refine wpAny_ready (rs := [5, 10]) (by kernel_rfl) (by simp) ?_
      refine AllReady.cons rfl (fun K hK => ?_) ?_
      · go_simp
        refine hK _ _ ?_
        clear hK K
        refine wpAny_gen (p := fun W => Below w1.heap.size w1 W ∧ Reads W W.heap.size 1 (some ⟨wu1.heap.size, 0, none⟩) 2 [iv (unit2 big a b : Int), iv (unit2 big c d : Int)]) ⟨hbc.alloc hbc.size _, reads_newH _ #[.int .i64 (unit2 big a b : Int), .int .i64 (unit2 big c d : Int)] 3 [iv (unit2 big a b : Int), iv (unit2 big c d : Int)] _ rfl rfl⟩ ?_
        rintro ws2 ⟨hbc, hrd⟩
        refine wpAny_ready (rs := [6, 10]) (by kernel_rfl) (by simp) ?_
        refine AllReady.cons rfl (fun K hK => ?_) ?_
        · go_simp
          refine (decode_any _ 2 2 _ [(unit2 big a b : Int), (unit2 big c d : Int)] 1 _ hrd (Nat.le_refl _) (by omega) (hdg1.below hbc)).mono ?_
          rw [Hdec.out]
          rintro e wd3 ⟨v, rfl, hov, hbd⟩
          obtain ⟨Av, cv, rfl, _, _⟩ := val_of_own hov
          replace hbc := hbc.trans (hbd.mono hbc.size)
          refine hK _ _ ?_
          clear hK K
          refine wpAny_take (i := 7) (v := (.tuple #[(.slice Av 0 cv), .agg #[.int .i64 9, .int .i64 0]])) rfl (by kernel_rfl) (by kernel_rfl) (by kernel_rfl) (fun _ _ _ h => h) (Or.inl ⟨by rfl, by intro w; go_simp⟩) ?_
          refine wpAny_take (i := 8) (v := (.slice Av 0 cv)) rfl (by kernel_rfl) (by kernel_rfl) (by kernel_rfl) (fun _ _ _ h => h) (Or.inl ⟨by rfl, by intro w; go_simp⟩) ?_
          refine wpAny_take (i := 9) (v := (.agg #[.int .i64 9, .int .i64 0])) rfl (by kernel_rfl) (by kernel_rfl) (by kernel_rfl) (fun _ _ _ h => h) (Or.inl ⟨by rfl, by intro w; go_simp⟩) ?_
          refine wpAny_ready (rs := [10]) (by kernel_rfl) (by simp) ?_
          refine AllReady.cons rfl (fun K hK => ?_) AllReady.nil
          go_simp
          refine hK _ _ ?_
          clear hK K
          have hgg := hbc.size
          refine wpAny_gen (p := fun W => Below w1.heap.size w1 W ∧ Blk W wd3.heap.size 37 #[.int .i64 0, .int .i64 0]) ⟨hbc.alloc hbc.size _, Blk.new _ _ _⟩ ?_
          rintro wf4 ⟨hbc, hF⟩
          refine wpAny_take (i := 11) (v := (.slice Av 0 cv)) rfl (by kernel_rfl) (by kernel_rfl) (by kernel_rfl) (fun _ _ _ h => h) (Or.inl ⟨by rfl, by intro w; go_simp⟩) ?_
          have z0 := hF.cell 0
          have z1 := hF.cell 1
          have f0 := hF.frozen 0
          have f1 := hF.frozen 1
          refine wpAny_ready (rs := [12]) (by kernel_rfl) (by simp) ?_
          refine AllReady.cons rfl (fun K hK => ?_) AllReady.nil
          go_simp
          refine hK _ _ ?_
          clear hK K
          refine wpAny_done (by kernel_rfl) ?_ _
          have d0 := ((hF.set_ 0 (.int .i64 9)).set_ 1 (.int .i64 0)).cell 0
          have bF := (hbc.setCell (p := ⟨wd3.heap.size, 0, none⟩) hgg (.int .i64 9)).setCell (p := ⟨wd3.heap.size, 1, none⟩) hgg (.int .i64 0)
          obtain ⟨wz, hwz⟩ : ∃ wz, wz = (World.setCell (World.setCell wf4 ⟨wd3.heap.size, 0, none⟩ (.int .i64 9)) ⟨wd3.heap.size, 1, none⟩ (.int .i64 0)) := ⟨_, rfl⟩
          rw [← hwz] at d0 bF ⊢
          clear hwz z0 z1 f0 f1
          go_wp2
          exact bodyPost_ret (v := .tuple #[.int .i64 0, .int .i64 2, .bool false]) (by simp [results, Tryd.results131, go_sem]) rfl ⟨by rw [He.out]; rfl, HB1.out.trans (bF.mono hsz1)⟩
        · refine AllReady.cons rfl (fun K hK => ?_) AllReady.nil
          go_simp
          refine hK _ _ ?_
          clear hK K
          have hgg := hbc.size
          refine wpAny_gen (p := fun W => Below w1.heap.size w1 W ∧ Blk W ws2.heap.size 37 #[.int .i64 0, .int .i64 0] ∧ Reads W W.heap.size 1 (some ⟨wu1.heap.size, 0, none⟩) 2 [iv (unit2 big a b : Int), iv (unit2 big c d : Int)]) ⟨hbc.alloc hbc.size _, Blk.new _ _ _, hrd.stay (below_new _ _)⟩ ?_
          rintro wf5 ⟨hbc, hF, hrd⟩
          refine wpAny_ready (rs := [6]) (by kernel_rfl) (by simp) ?_
          refine AllReady.cons rfl (fun K hK => ?_) AllReady.nil
          go_simp
          refine (decode_any _ 2 2 _ [(unit2 big a b : Int), (unit2 big c d : Int)] 1 _ hrd (Nat.le_refl _) (by omega) (hdg1.below hbc)).mono ?_
          rw [Hdec.out]
          rintro e wd6 ⟨v, rfl, hov, hbd⟩
          obtain ⟨Av, cv, rfl, _, _⟩ := val_of_own hov
          have hgF := hF.lt
          replace hF := hF.stay hbd
          replace hbc := hbc.trans (hbd.mono hbc.size)
          refine hK _ _ ?_
          clear hK K
          refine wpAny_take (i := 7) (v := (.tuple #[(.slice Av 0 cv), .agg #[.int .i64 9, .int .i64 0]])) rfl (by kernel_rfl) (by kernel_rfl) (by kernel_rfl) (fun _ _ _ h => h) (Or.inl ⟨by rfl, by intro w; go_simp⟩) ?_
          refine wpAny_take (i := 8) (v := (.slice Av 0 cv)) rfl (by kernel_rfl) (by kernel_rfl) (by kernel_rfl) (fun _ _ _ h => h) (Or.inl ⟨by rfl, by intro w; go_simp⟩) ?_
          refine wpAny_take (i := 9) (v := (.agg #[.int .i64 9, .int .i64 0])) rfl (by kernel_rfl) (by kernel_rfl) (by kernel_rfl) (fun _ _ _ h => h) (Or.inl ⟨by rfl, by intro w; go_simp⟩) ?_
          refine wpAny_take (i := 11) (v := (.slice Av 0 cv)) rfl (by kernel_rfl) (by kernel_rfl) (by kernel_rfl) (fun _ _ _ h => h) (Or.inl ⟨by rfl, by intro w; go_simp⟩) ?_
          have z0 := hF.cell 0
          have z1 := hF.cell 1
          have f0 := hF.frozen 0
          have f1 := hF.frozen 1
          refine wpAny_ready (rs := [12]) (by kernel_rfl) (by simp) ?_
          refine AllReady.cons rfl (fun K hK => ?_) AllReady.nil
          go_simp
          refine hK _ _ ?_
          clear hK K
          refine wpAny_done (by kernel_rfl) ?_ _
          have d0 := ((hF.set_ 0 (.int .i64 9)).set_ 1 (.int .i64 0)).cell 0
          have bF := (hbc.setCell (p := ⟨ws2.heap.size, 0, none⟩) hgg (.int .i64 9)).setCell (p := ⟨ws2.heap.size, 1, none⟩) hgg (.int .i64 0)
          obtain ⟨wz, hwz⟩ : ∃ wz, wz = (World.setCell (World.setCell wd6 ⟨ws2.heap.size, 0, none⟩ (.int .i64 9)) ⟨ws2.heap.size, 1, none⟩ (.int .i64 0)) := ⟨_, rfl⟩
          rw [← hwz] at d0 bF ⊢
          clear hwz z0 z1 f0 f1
          go_wp2
          exact bodyPost_ret (v := .tuple #[.int .i64 0, .int .i64 2, .bool false]) (by simp [results, Tryd.results131, go_sem]) rfl ⟨by rw [He.out]; rfl, HB1.out.trans (bF.mono hsz1)⟩
      · refine AllReady.cons rfl (fun K hK => ?_) AllReady.nil
        go_simp
        refine hK _ _ ?_
        clear hK K
        have hgg := hbc.size
        refine wpAny_gen (p := fun W => Below w1.heap.size w1 W ∧ Blk W wu1.heap.size 37 #[.int .i64 0, .int .i64 0]) ⟨hbc.alloc hbc.size _, Blk.new _ _ _⟩ ?_
        rintro wf7 ⟨hbc, hF⟩
        refine wpAny_ready (rs := [5]) (by kernel_rfl) (by simp) ?_
        refine AllReady.cons rfl (fun K hK => ?_) AllReady.nil
        go_simp
        refine hK _ _ ?_
        clear hK K
        refine wpAny_gen (p := fun W => Below w1.heap.size w1 W ∧ Reads W W.heap.size 1 (some ⟨wf7.heap.size, 0, none⟩) 2 [iv (unit2 big a b : Int), iv (unit2 big c d : Int)] ∧ Blk W wu1.heap.size 37 #[.int .i64 0, .int .i64 0]) ⟨hbc.alloc hbc.size _, reads_newH _ #[.int .i64 (unit2 big a b : Int), .int .i64 (unit2 big c d : Int)] 3 [iv (unit2 big a b : Int), iv (unit2 big c d : Int)] _ rfl rfl, hF.alloc _⟩ ?_
        rintro ws8 ⟨hbc, hrd, hF⟩
        refine wpAny_ready (rs := [6]) (by kernel_rfl) (by simp) ?_
        refine AllReady.cons rfl (fun K hK => ?_) AllReady.nil
        go_simp
        refine (decode_any _ 2 2 _ [(unit2 big a b : Int), (unit2 big c d : Int)] 1 _ hrd (Nat.le_refl _) (by omega) (hdg1.below hbc)).mono ?_
        rw [Hdec.out]
        rintro e wd9 ⟨v, rfl, hov, hbd⟩
        obtain ⟨Av, cv, rfl, _, _⟩ := val_of_own hov
        have hgF := hF.lt
        replace hF := hF.stay hbd
        replace hbc := hbc.trans (hbd.mono hbc.size)
        refine hK _ _ ?_
        clear hK K
        refine wpAny_take (i := 7) (v := (.tuple #[(.slice Av 0 cv), .agg #[.int .i64 9, .int .i64 0]])) rfl (by kernel_rfl) (by kernel_rfl) (by kernel_rfl) (fun _ _ _ h => h) (Or.inl ⟨by rfl, by intro w; go_simp⟩) ?_
        refine wpAny_take (i := 8) (v := (.slice Av 0 cv)) rfl (by kernel_rfl) (by kernel_rfl) (by kernel_rfl) (fun _ _ _ h => h) (Or.inl ⟨by rfl, by intro w; go_simp⟩) ?_
        refine wpAny_take (i := 9) (v := (.agg #[.int .i64 9, .int .i64 0])) rfl (by kernel_rfl) (by kernel_rfl) (by kernel_rfl) (fun _ _ _ h => h) (Or.inl ⟨by rfl, by intro w; go_simp⟩) ?_
        refine wpAny_take (i := 11) (v := (.slice Av 0 cv)) rfl (by kernel_rfl) (by kernel_rfl) (by kernel_rfl) (fun _ _ _ h => h) (Or.inl ⟨by rfl, by intro w; go_simp⟩) ?_
        have z0 := hF.cell 0
        have z1 := hF.cell 1
        have f0 := hF.frozen 0
        have f1 := hF.frozen 1
        refine wpAny_ready (rs := [12]) (by kernel_rfl) (by simp) ?_
        refine AllReady.cons rfl (fun K hK => ?_) AllReady.nil
        go_simp
        refine hK _ _ ?_
        clear hK K
        refine wpAny_done (by kernel_rfl) ?_ _
        have d0 := ((hF.set_ 0 (.int .i64 9)).set_ 1 (.int .i64 0)).cell 0
        have bF := (hbc.setCell (p := ⟨wu1.heap.size, 0, none⟩) hgg (.int .i64 9)).setCell (p := ⟨wu1.heap.size, 1, none⟩) hgg (.int .i64 0)
        obtain ⟨wz, hwz⟩ : ∃ wz, wz = (World.setCell (World.setCell wd9 ⟨wu1.heap.size, 0, none⟩ (.int .i64 9)) ⟨wu1.heap.size, 1, none⟩ (.int .i64 0)) := ⟨_, rfl⟩
        rw [← hwz] at d0 bF ⊢
        clear hwz z0 z1 f0 f1
        go_wp2
        exact bodyPost_ret (v := .tuple #[.int .i64 0, .int .i64 2, .bool false]) (by simp [results, Tryd.results131, go_sem]) rfl ⟨by rw [He.out]; rfl, HB1.out.trans (bF.mono hsz1)⟩
    · refine AllReady.cons rfl (fun K hK => ?_) AllReady.nil
      go_simp
      refine hK _ _ ?_
      clear hK K
      have hgg := hbc.size
      refine wpAny_gen (p := fun W => Below w1.heap.size w1 W ∧ Blk W w0.heap.size 37 #[.int .i64 0, .int .i64 0]) ⟨hbc.alloc hbc.size _, Blk.new _ _ _⟩ ?_
      rintro wf10 ⟨hbc, hF⟩
      refine wpAny_ready (rs := [4]) (by kernel_rfl) (by simp) ?_
      refine AllReady.cons rfl (fun K hK => ?_) AllReady.nil
      go_simp
      refine (unit16_any big (s.drop 2) c d _ (by simp; omega) Hc.out Hd.out).mono ?_
      rintro e wu11 ⟨rfl, hbu⟩
      replace hbc := hbc.trans (hbu.mono hbc.size)
      replace hF := hF.stay hbu
      refine hK _ _ ?_
      clear hK K
      refine wpAny_ready (rs := [5]) (by kernel_rfl) (by simp) ?_
      refine AllReady.cons rfl (fun K hK => ?_) AllReady.nil
      go_simp
      refine hK _ _ ?_
      clear hK K
      refine wpAny_gen (p := fun W => Below w1.heap.size w1 W ∧ Reads W W.heap.size 1 (some ⟨wu11.heap.size, 0, none⟩) 2 [iv (unit2 big a b : Int), iv (unit2 big c d : Int)] ∧ Blk W w0.heap.size 37 #[.int .i64 0, .int .i64 0]) ⟨hbc.alloc hbc.size _, reads_newH _ #[.int .i64 (unit2 big a b : Int), .int .i64 (unit2 big c d : Int)] 3 [iv (unit2 big a b : Int), iv (unit2 big c d : Int)] _ rfl rfl, hF.alloc _⟩ ?_
      rintro ws12 ⟨hbc, hrd, hF⟩
      refine wpAny_ready (rs := [6]) (by kernel_rfl) (by simp) ?_
      refine AllReady.cons rfl (fun K hK => ?_) AllReady.nil
      go_simp
      refine (decode_any _ 2 2 _ [(unit2 big a b : Int), (unit2 big c d : Int)] 1 _ hrd (Nat.le_refl _) (by omega) (hdg1.below hbc)).mono ?_
      rw [Hdec.out]
      rintro e wd13 ⟨v, rfl, hov, hbd⟩
      obtain ⟨Av, cv, rfl, _, _⟩ := val_of_own hov
      have hgF := hF.lt
      replace hF := hF.stay hbd
      replace hbc := hbc.trans (hbd.mono hbc.size)
      refine hK _ _ ?_
      clear hK K
      refine wpAny_take (i := 7) (v := (.tuple #[(.slice Av 0 cv), .agg #[.int .i64 9, .int .i64 0]])) rfl (by kernel_rfl) (by kernel_rfl) (by kernel_rfl) (fun _ _ _ h => h) (Or.inl ⟨by rfl, by intro w; go_simp⟩) ?_
      refine wpAny_take (i := 8) (v := (.slice Av 0 cv)) rfl (by kernel_rfl) (by kernel_rfl) (by kernel_rfl) (fun _ _ _ h => h) (Or.inl ⟨by rfl, by intro w; go_simp⟩) ?_
      refine wpAny_take (i := 9) (v := (.agg #[.int .i64 9, .int .i64 0])) rfl (by kernel_rfl) (by kernel_rfl) (by kernel_rfl) (fun _ _ _ h => h) (Or.inl ⟨by rfl, by intro w; go_simp⟩) ?_
      refine wpAny_take (i := 11) (v := (.slice Av 0 cv)) rfl (by kernel_rfl) (by kernel_rfl) (by kernel_rfl) (fun _ _ _ h => h) (Or.inl ⟨by rfl, by intro w; go_simp⟩) ?_
      have z0 := hF.cell 0
      have z1 := hF.cell 1
      have f0 := hF.frozen 0
      have f1 := hF.frozen 1
      refine wpAny_ready (rs := [12]) (by kernel_rfl) (by simp) ?_
      refine AllReady.cons rfl (fun K hK => ?_) AllReady.nil
      go_simp
      refine hK _ _ ?_
      clear hK K
      refine wpAny_done (by kernel_rfl) ?_ _
      have d0 := ((hF.set_ 0 (.int .i64 9)).set_ 1 (.int .i64 0)).cell 0
      have bF := (hbc.setCell (p := ⟨w0.heap.size, 0, none⟩) hgg (.int .i64 9)).setCell (p := ⟨w0.heap.size, 1, none⟩) hgg (.int .i64 0)
      obtain ⟨wz, hwz⟩ : ∃ wz, wz = (World.setCell (World.setCell wd13 ⟨w0.heap.size, 0, none⟩ (.int .i64 9)) ⟨w0.heap.size, 1, none⟩ (.int .i64 0)) := ⟨_, rfl⟩
      rw [← hwz] at d0 bF ⊢
      clear hwz z0 z1 f0 f1
      go_wp2
      exact bodyPost_ret (v := .tuple #[.int .i64 0, .int .i64 2, .bool false]) (by simp [results, Tryd.results131, go_sem]) rfl ⟨by rw [He.out]; rfl, HB1.out.trans (bF.mono hsz1)⟩
  · refine AllReady.cons rfl (fun K hK => ?_) AllReady.nil
    go_simp
    refine hK _ _ ?_
    clear hK K
    have hgg := hbc.size
    refine wpAny_gen (p := fun W => Below w1.heap.size w1 W ∧ Blk W w0.heap.size 37 #[.int .i64 0, .int .i64 0]) ⟨hbc.alloc hbc.size _, Blk.new _ _ _⟩ ?_
    rintro wf14 ⟨hbc, hF⟩
    refine wpAny_ready (rs := [1]) (by kernel_rfl) (by simp) ?_
    refine AllReady.cons rfl (fun K hK => ?_) AllReady.nil
    have hcl := K0.out _ hbc
    go_simp
    clear hcl
    refine hK _ _ ?_
    clear hK K
    refine wpAny_ready (rs := [4]) (by kernel_rfl) (by simp) ?_
    refine AllReady.cons rfl (fun K hK => ?_) AllReady.nil
    go_simp
    refine (unit16_any big (s.drop 2) c d _ (by simp; omega) Hc.out Hd.out).mono ?_
    rintro e wu15 ⟨rfl, hbu⟩
    replace hbc := hbc.trans (hbu.mono hbc.size)
    replace hF := hF.stay hbu
    refine hK _ _ ?_
    clear hK K
    refine wpAny_ready (rs := [5]) (by kernel_rfl) (by simp) ?_
    refine AllReady.cons rfl (fun K hK => ?_) AllReady.nil
    go_simp
    refine hK _ _ ?_
    clear hK K
    refine wpAny_gen (p := fun W => Below w1.heap.size w1 W ∧ Reads W W.heap.size 1 (some ⟨wu15.heap.size, 0, none⟩) 2 [iv (unit2 big a b : Int), iv (unit2 big c d : Int)] ∧ Blk W w0.heap.size 37 #[.int .i64 0, .int .i64 0]) ⟨hbc.alloc hbc.size _, reads_newH _ #[.int .i64 (unit2 big a b : Int), .int .i64 (unit2 big c d : Int)] 3 [iv (unit2 big a b : Int), iv (unit2 big c d : Int)] _ rfl rfl, hF.alloc _⟩ ?_
    rintro ws16 ⟨hbc, hrd, hF⟩
    refine wpAny_ready (rs := [6]) (by kernel_rfl) (by simp) ?_
    refine AllReady.cons rfl (fun K hK => ?_) AllReady.nil
    go_simp
    refine (decode_any _ 2 2 _ [(unit2 big a b : Int), (unit2 big c d : Int)] 1 _ hrd (Nat.le_refl _) (by omega) (hdg1.below hbc)).mono ?_
    rw [Hdec.out]
    rintro e wd17 ⟨v, rfl, hov, hbd⟩
    obtain ⟨Av, cv, rfl, _, _⟩ := val_of_own hov
    have hgF := hF.lt
    replace hF := hF.stay hbd
    replace hbc := hbc.trans (hbd.mono hbc.size)
    refine hK _ _ ?_
    clear hK K
    refine wpAny_take (i := 7) (v := (.tuple #[(.slice Av 0 cv), .agg #[.int .i64 9, .int .i64 0]])) rfl (by kernel_rfl) (by kernel_rfl) (by kernel_rfl) (fun _ _ _ h => h) (Or.inl ⟨by rfl, by intro w; go_simp⟩) ?_
    refine wpAny_take (i := 8) (v := (.slice Av 0 cv)) rfl (by kernel_rfl) (by kernel_rfl) (by kernel_rfl) (fun _ _ _ h => h) (Or.inl ⟨by rfl, by intro w; go_simp⟩) ?_
    refine wpAny_take (i := 9) (v := (.agg #[.int .i64 9, .int .i64 0])) rfl (by kernel_rfl) (by kernel_rfl) (by kernel_rfl) (fun _ _ _ h => h) (Or.inl ⟨by rfl, by intro w; go_simp⟩) ?_
    refine wpAny_take (i := 11) (v := (.slice Av 0 cv)) rfl (by kernel_rfl) (by kernel_rfl) (by kernel_rfl) (fun _ _ _ h => h) (Or.inl ⟨by rfl, by intro w; go_simp⟩) ?_
    have z0 := hF.cell 0
    have z1 := hF.cell 1
    have f0 := hF.frozen 0
    have f1 := hF.frozen 1
    refine wpAny_ready (rs := [12]) (by kernel_rfl) (by simp) ?_
    refine AllReady.cons rfl (fun K hK => ?_) AllReady.nil
    go_simp
    refine hK _ _ ?_
    clear hK K
    refine wpAny_done (by kernel_rfl) ?_ _
    have d0 := ((hF.set_ 0 (.int .i64 9)).set_ 1 (.int .i64 0)).cell 0
    have bF := (hbc.setCell (p := ⟨w0.heap.size, 0, none⟩) hgg (.int .i64 9)).setCell (p := ⟨w0.heap.size, 1, none⟩) hgg (.int .i64 0)
    obtain ⟨wz, hwz⟩ : ∃ wz, wz = (World.setCell (World.setCell wd17 ⟨w0.heap.size, 0, none⟩ (.int .i64 9)) ⟨w0.heap.size, 1, none⟩ (.int .i64 0)) := ⟨_, rfl⟩
    rw [← hwz] at d0 bF ⊢
    clear hwz z0 z1 f0 f1
    go_wp2
    exact bodyPost_ret (v := .tuple #[.int .i64 0, .int .i64 2, .bool false]) (by simp [results, Tryd.results131, go_sem]) rfl ⟨by rw [He.out]; rfl, HB1.out.trans (bF.mono hsz1)⟩

set_option maxRecDepth 100000 in
set_option maxHeartbeats 4000000 in
theorem stepU16_yes (big : Bool) (s : List UInt8) (a b c d : UInt8) (w : World) (hs : s.length ≤ 1000000) (ha : s[0]? = some a) (hb : s[1]? = some b) (hc : s[2]? = some c) (hd : s[3]? = some d) (h : sur (unit2 big a b) = true) (h5 : unit2 big a b ≤ 56319 ∧ 56320 ≤ unit2 big c d ∧ unit2 big c d ≤ 57343) (hdg : Dig w) :
    Calls Tryd.prog 131 #[.agg #[.bool big], .string ⟨s.toArray⟩] w fun e w' => e = .returned (trip64 (step16 big s)) ∧ Below w.heap.size w w' := by
  obtain ⟨Z, hZ⟩ : ∃ Z, Z = 65536 + (unit2 big a b - 55296) * 1024 + (unit2 big c d - 56320) := ⟨_, rfl⟩
  have He := Lib.hid ((step16_four ha hb hc hd).trans (show two16 (unit2 big a b) (unit2 big c d) = (Z, 4, true) by rw [two16, if_pos h, if_pos h5, hZ]))
  have Hdec := Lib.hid ((dec16_two (unit2 big a b) (unit2 big c d) h).trans (show _ = ([(Z : Int)], 0, 0) by rw [if_pos h5, hZ]))
  obtain ⟨h3, _⟩ := List.getElem?_eq_some_iff.1 hd
  have h' : ¬ (s.length : Int) < 2 := by omega
  have h4' : (4 : Int) ≤ (s.length : Int) := by omega
  have h2' : (2 : Int) ≤ (s.length : Int) := by omega
  have h2d : 2 ≤ s.length := by omega
  have hext := ext_drop s 2
  have hext2 : (⟨s.toArray⟩ : ByteArray).extract (Int.toNat 2) s.length = ⟨(s.drop 2).toArray⟩ := hext
  obtain ⟨hc2, hd2⟩ := drop2_at hc hd
  have Ha := Lib.hid ha
  have Hb := Lib.hid hb
  have Hc := Lib.hid hc2
  have Hd := Lib.hid hd2
  have hbl := Blk.new w 105 #[.bool big]
  have HB := Lib.hid (below_new w (.cells #[.bool big] 105))
  have hsr := surrB_nat (unit2 big a b)
  rw [h] at hsr
  have Hs := Lib.hid hsr
  clear ha hb hc hd hc2 hd2 h h5 hsr hZ
  go_enter Tryd.func131, Tryd.ntmps131
  go_wp2_with fail
  refine (unit16_any big s a b _ hs Ha.out Hb.out).mono ?_
  rintro e w1 ⟨rfl, hb1⟩
  have hbl1 := hbl.stay (by simpa using hb1)
  have HB1 := Lib.hid (HB.out.trans (hb1.mono (by simp)))
  clear hb1 hbl
  go_wp2_with fail
  refine (surr_any _ _).mono ?_
  rintro e w2 ⟨rfl, rfl⟩
  rw [Hs.out]
  go_wp2_with fail
  have K0 := Lib.hid (show ∀ w', Below w1.heap.size w1 w' → w'.cell? ⟨w.heap.size, 0, none⟩ = some (.bool big) from fun w' hb => (hbl1.stay hb).cell 0)
  have hdg1 : Dig w1 := hdg.below HB1.out
  have hbc : Below w1.heap.size w1 w1.drew := (Below.refl _ _).drew
  have hsz1 : w.heap.size ≤ w1.heap.size := HB1.out.size
  refine wp_region_any (by kernel_rfl) ?_
  change wpAny _ _ _ _ _ _ _ (World.drew _)
  refine wpAny_gen (p := fun W => Below w1.heap.size w1 W) (Below.refl _ _).drew ?_
  clear hbc
  intro w0 hbc
  refine wpAny_take (i := 0) (v := .int .i64 (unit2 big a b : Int)) rfl (by kernel_rfl) (by kernel_rfl) (by kernel_rfl) (fun _ _ _ h => h) (Or.inl ⟨by rfl, by intro w; go_simp⟩) ?_
  refine wpAny_take (i := 2) (v := .string ⟨s.toArray⟩) rfl (by kernel_rfl) (by kernel_rfl) (by kernel_rfl) (fun _ _ _ h => h) (Or.inl ⟨by rfl, by intro w; go_simp⟩) ?_
  refine wpAny_take (i := 3) (v := .string ⟨(s.drop 2).toArray⟩) rfl (by kernel_rfl) (by kernel_rfl) (by kernel_rfl) (fun _ _ _ h => h) (Or.inl ⟨by rfl, by intro w; go_simp⟩) ?_
  refine wpAny_ready (rs := [1, 10]) (by kernel_rfl) (by simp) ?_
  refine AllReady.cons rfl (fun K hK => ?_) ?_
  · have hcl := K0.out _ hbc
    go_simp
    clear hcl
    refine hK _ _ ?_
    clear hK K
    refine wpAny_ready (rs := [4, 10]) (by kernel_rfl) (by simp) ?_
    refine AllReady.cons rfl (fun K hK => ?_) ?_
    · go_simp
      refine (unit16_any big (s.drop 2) c d _ (by simp; omega) Hc.out Hd.out).mono ?_
      rintro e wu18 ⟨rfl, hbu⟩
      replace hbc := hbc.trans (hbu.mono hbc.size)
      refine hK _ _ ?_
      clear hK K
      refine wpAny_ready (rs := [5, 10]) (by kernel_rfl) (by simp) ?_
      refine AllReady.cons rfl (fun K hK => ?_) ?_
      · go_simp
        refine hK _ _ ?_
        clear hK K
        refine wpAny_gen (p := fun W => Below w1.heap.size w1 W ∧ Reads W W.heap.size 1 (some ⟨wu18.heap.size, 0, none⟩) 2 [iv (unit2 big a b : Int), iv (unit2 big c d : Int)]) ⟨hbc.alloc hbc.size _, reads_newH _ #[.int .i64 (unit2 big a b : Int), .int .i64 (unit2 big c d : Int)] 3 [iv (unit2 big a b : Int), iv (unit2 big c d : Int)] _ rfl rfl⟩ ?_
        rintro ws19 ⟨hbc, hrd⟩
        refine wpAny_ready (rs := [6, 10]) (by kernel_rfl) (by simp) ?_
        refine AllReady.cons rfl (fun K hK => ?_) ?_
        · go_simp
          refine (decode_any _ 2 2 _ [(unit2 big a b : Int), (unit2 big c d : Int)] 1 _ hrd (Nat.le_refl _) (by omega) (hdg1.below hbc)).mono ?_
          rw [Hdec.out]
          rintro e wd20 ⟨v, rfl, hov, hbd⟩
          obtain ⟨gv, cv, rfl, hgv, hgl⟩ := hov.form (by simp)
          have hcv : wd20.cell? ⟨gv, 0, none⟩ = some (.int .i64 (Z : Int)) := hov.cells (g := gv) rfl 0 _ rfl
          replace hbc := hbc.trans (hbd.mono hbc.size)
          refine hK _ _ ?_
          clear hK K
          refine wpAny_take (i := 7) (v := (.tuple #[(.slice (some ⟨gv, 0, none⟩) 1 cv), .agg #[.int .i64 0, .int .i64 0]])) rfl (by kernel_rfl) (by kernel_rfl) (by kernel_rfl) (fun _ _ _ h => h) (Or.inl ⟨by rfl, by intro w; go_simp⟩) ?_
          refine wpAny_take (i := 8) (v := (.slice (some ⟨gv, 0, none⟩) 1 cv)) rfl (by kernel_rfl) (by kernel_rfl) (by kernel_rfl) (fun _ _ _ h => h) (Or.inl ⟨by rfl, by intro w; go_simp⟩) ?_
          refine wpAny_take (i := 9) (v := (.agg #[.int .i64 0, .int .i64 0])) rfl (by kernel_rfl) (by kernel_rfl) (by kernel_rfl) (fun _ _ _ h => h) (Or.inl ⟨by rfl, by intro w; go_simp⟩) ?_
          refine wpAny_ready (rs := [10]) (by kernel_rfl) (by simp) ?_
          refine AllReady.cons rfl (fun K hK => ?_) AllReady.nil
          go_simp
          refine hK _ _ ?_
          clear hK K
          have hgg := hbc.size
          refine wpAny_gen (p := fun W => Below w1.heap.size w1 W ∧ Blk W wd20.heap.size 37 #[.int .i64 0, .int .i64 0] ∧ W.cell? ⟨gv, 0, none⟩ = some (.int .i64 (Z : Int))) ⟨hbc.alloc hbc.size _, Blk.new _ _ _, (World.cell?_alloc_lt _ _ _ hgl).trans hcv⟩ ?_
          rintro wf21 ⟨hbc, hF, hcv⟩
          refine wpAny_take (i := 11) (v := (.slice (some ⟨gv, 0, none⟩) 1 cv)) rfl (by kernel_rfl) (by kernel_rfl) (by kernel_rfl) (fun _ _ _ h => h) (Or.inl ⟨by rfl, by intro w; go_simp⟩) ?_
          have z0 := hF.cell 0
          have z1 := hF.cell 1
          have f0 := hF.frozen 0
          have f1 := hF.frozen 1
          refine wpAny_ready (rs := [12]) (by kernel_rfl) (by simp) ?_
          refine AllReady.cons rfl (fun K hK => ?_) AllReady.nil
          go_simp
          refine hK _ _ ?_
          clear hK K
          refine wpAny_done (by kernel_rfl) ?_ _
          have d0 := ((hF.set_ 0 (.int .i64 0)).set_ 1 (.int .i64 0)).cell 0
          have bF := (hbc.setCell (p := ⟨wd20.heap.size, 0, none⟩) hgg (.int .i64 0)).setCell (p := ⟨wd20.heap.size, 1, none⟩) hgg (.int .i64 0)
          have hne : gv ≠ wd20.heap.size := by omega
          have hcv2 : (World.setCell (World.setCell wf21 ⟨wd20.heap.size, 0, none⟩ (.int .i64 0)) ⟨wd20.heap.size, 1, none⟩ (.int .i64 0)).cell? ⟨gv, 0, none⟩ = some (.int .i64 (Z : Int)) := by
            rw [World.cell?_setCell_other _ _ _ _ (by intro e; injection e with e1 e2; first | exact hne e1 | exact hne e1.symm), World.cell?_setCell_other _ _ _ _ (by intro e; injection e with e1 e2; first | exact hne e1 | exact hne e1.symm)]; exact hcv
          obtain ⟨wz, hwz⟩ : ∃ wz, wz = (World.setCell (World.setCell wf21 ⟨wd20.heap.size, 0, none⟩ (.int .i64 0)) ⟨wd20.heap.size, 1, none⟩ (.int .i64 0)) := ⟨_, rfl⟩
          rw [← hwz] at d0 bF hcv2 ⊢
          clear hwz z0 z1 f0 f1
          go_wp2
          exact bodyPost_ret (v := .tuple #[.int .i64 (Z : Int), .int .i64 4, .bool true]) (by simp [results, Tryd.results131, go_sem]) rfl ⟨by rw [He.out]; rfl, HB1.out.trans (bF.mono hsz1)⟩
        · refine AllReady.cons rfl (fun K hK => ?_) AllReady.nil
          go_simp
          refine hK _ _ ?_
          clear hK K
          have hgg := hbc.size
          refine wpAny_gen (p := fun W => Below w1.heap.size w1 W ∧ Blk W ws19.heap.size 37 #[.int .i64 0, .int .i64 0] ∧ Reads W W.heap.size 1 (some ⟨wu18.heap.size, 0, none⟩) 2 [iv (unit2 big a b : Int), iv (unit2 big c d : Int)]) ⟨hbc.alloc hbc.size _, Blk.new _ _ _, hrd.stay (below_new _ _)⟩ ?_
          rintro wf22 ⟨hbc, hF, hrd⟩
          refine wpAny_ready (rs := [6]) (by kernel_rfl) (by simp) ?_
          refine AllReady.cons rfl (fun K hK => ?_) AllReady.nil
          go_simp
          refine (decode_any _ 2 2 _ [(unit2 big a b : Int), (unit2 big c d : Int)] 1 _ hrd (Nat.le_refl _) (by omega) (hdg1.below hbc)).mono ?_
          rw [Hdec.out]
          rintro e wd23 ⟨v, rfl, hov, hbd⟩
          obtain ⟨gv, cv, rfl, hgv, hgl⟩ := hov.form (by simp)
          have hcv : wd23.cell? ⟨gv, 0, none⟩ = some (.int .i64 (Z : Int)) := hov.cells (g := gv) rfl 0 _ rfl
          have hgF := hF.lt
          replace hF := hF.stay hbd
          replace hbc := hbc.trans (hbd.mono hbc.size)
          refine hK _ _ ?_
          clear hK K
          refine wpAny_take (i := 7) (v := (.tuple #[(.slice (some ⟨gv, 0, none⟩) 1 cv), .agg #[.int .i64 0, .int .i64 0]])) rfl (by kernel_rfl) (by kernel_rfl) (by kernel_rfl) (fun _ _ _ h => h) (Or.inl ⟨by rfl, by intro w; go_simp⟩) ?_
          refine wpAny_take (i := 8) (v := (.slice (some ⟨gv, 0, none⟩) 1 cv)) rfl (by kernel_rfl) (by kernel_rfl) (by kernel_rfl) (fun _ _ _ h => h) (Or.inl ⟨by rfl, by intro w; go_simp⟩) ?_
          refine wpAny_take (i := 9) (v := (.agg #[.int .i64 0, .int .i64 0])) rfl (by kernel_rfl) (by kernel_rfl) (by kernel_rfl) (fun _ _ _ h => h) (Or.inl ⟨by rfl, by intro w; go_simp⟩) ?_
          refine wpAny_take (i := 11) (v := (.slice (some ⟨gv, 0, none⟩) 1 cv)) rfl (by kernel_rfl) (by kernel_rfl) (by kernel_rfl) (fun _ _ _ h => h) (Or.inl ⟨by rfl, by intro w; go_simp⟩) ?_
          have z0 := hF.cell 0
          have z1 := hF.cell 1
          have f0 := hF.frozen 0
          have f1 := hF.frozen 1
          refine wpAny_ready (rs := [12]) (by kernel_rfl) (by simp) ?_
          refine AllReady.cons rfl (fun K hK => ?_) AllReady.nil
          go_simp
          refine hK _ _ ?_
          clear hK K
          refine wpAny_done (by kernel_rfl) ?_ _
          have d0 := ((hF.set_ 0 (.int .i64 0)).set_ 1 (.int .i64 0)).cell 0
          have bF := (hbc.setCell (p := ⟨ws19.heap.size, 0, none⟩) hgg (.int .i64 0)).setCell (p := ⟨ws19.heap.size, 1, none⟩) hgg (.int .i64 0)
          have hne : gv ≠ ws19.heap.size := by omega
          have hcv2 : (World.setCell (World.setCell wd23 ⟨ws19.heap.size, 0, none⟩ (.int .i64 0)) ⟨ws19.heap.size, 1, none⟩ (.int .i64 0)).cell? ⟨gv, 0, none⟩ = some (.int .i64 (Z : Int)) := by
            rw [World.cell?_setCell_other _ _ _ _ (by intro e; injection e with e1 e2; first | exact hne e1 | exact hne e1.symm), World.cell?_setCell_other _ _ _ _ (by intro e; injection e with e1 e2; first | exact hne e1 | exact hne e1.symm)]; exact hcv
          obtain ⟨wz, hwz⟩ : ∃ wz, wz = (World.setCell (World.setCell wd23 ⟨ws19.heap.size, 0, none⟩ (.int .i64 0)) ⟨ws19.heap.size, 1, none⟩ (.int .i64 0)) := ⟨_, rfl⟩
          rw [← hwz] at d0 bF hcv2 ⊢
          clear hwz z0 z1 f0 f1
          go_wp2
          exact bodyPost_ret (v := .tuple #[.int .i64 (Z : Int), .int .i64 4, .bool true]) (by simp [results, Tryd.results131, go_sem]) rfl ⟨by rw [He.out]; rfl, HB1.out.trans (bF.mono hsz1)⟩
      · refine AllReady.cons rfl (fun K hK => ?_) AllReady.nil
        go_simp
        refine hK _ _ ?_
        clear hK K
        have hgg := hbc.size
        refine wpAny_gen (p := fun W => Below w1.heap.size w1 W ∧ Blk W wu18.heap.size 37 #[.int .i64 0, .int .i64 0]) ⟨hbc.alloc hbc.size _, Blk.new _ _ _⟩ ?_
        rintro wf24 ⟨hbc, hF⟩
        refine wpAny_ready (rs := [5]) (by kernel_rfl) (by simp) ?_
        refine AllReady.cons rfl (fun K hK => ?_) AllReady.nil
        go_simp
        refine hK _ _ ?_
        clear hK K
        refine wpAny_gen (p := fun W => Below w1.heap.size w1 W ∧ Reads W W.heap.size 1 (some ⟨wf24.heap.size, 0, none⟩) 2 [iv (unit2 big a b : Int), iv (unit2 big c d : Int)] ∧ Blk W wu18.heap.size 37 #[.int .i64 0, .int .i64 0]) ⟨hbc.alloc hbc.size _, reads_newH _ #[.int .i64 (unit2 big a b : Int), .int .i64 (unit2 big c d : Int)] 3 [iv (unit2 big a b : Int), iv (unit2 big c d : Int)] _ rfl rfl, hF.alloc _⟩ ?_
        rintro ws25 ⟨hbc, hrd, hF⟩
        refine wpAny_ready (rs := [6]) (by kernel_rfl) (by simp) ?_
        refine AllReady.cons rfl (fun K hK => ?_) AllReady.nil
        go_simp
        refine (decode_any _ 2 2 _ [(unit2 big a b : Int), (unit2 big c d : Int)] 1 _ hrd (Nat.le_refl _) (by omega) (hdg1.below hbc)).mono ?_
        rw [Hdec.out]
        rintro e wd26 ⟨v, rfl, hov, hbd⟩
        obtain ⟨gv, cv, rfl, hgv, hgl⟩ := hov.form (by simp)
        have hcv : wd26.cell? ⟨gv, 0, none⟩ = some (.int .i64 (Z : Int)) := hov.cells (g := gv) rfl 0 _ rfl
        have hgF := hF.lt
        replace hF := hF.stay hbd
        replace hbc := hbc.trans (hbd.mono hbc.size)
        refine hK _ _ ?_
        clear hK K
        refine wpAny_take (i := 7) (v := (.tuple #[(.slice (some ⟨gv, 0, none⟩) 1 cv), .agg #[.int .i64 0, .int .i64 0]])) rfl (by kernel_rfl) (by kernel_rfl) (by kernel_rfl) (fun _ _ _ h => h) (Or.inl ⟨by rfl, by intro w; go_simp⟩) ?_
        refine wpAny_take (i := 8) (v := (.slice (some ⟨gv, 0, none⟩) 1 cv)) rfl (by kernel_rfl) (by kernel_rfl) (by kernel_rfl) (fun _ _ _ h => h) (Or.inl ⟨by rfl, by intro w; go_simp⟩) ?_
        refine wpAny_take (i := 9) (v := (.agg #[.int .i64 0, .int .i64 0])) rfl (by kernel_rfl) (by kernel_rfl) (by kernel_rfl) (fun _ _ _ h => h) (Or.inl ⟨by rfl, by intro w; go_simp⟩) ?_
        refine wpAny_take (i := 11) (v := (.slice (some ⟨gv, 0, none⟩) 1 cv)) rfl (by kernel_rfl) (by kernel_rfl) (by kernel_rfl) (fun _ _ _ h => h) (Or.inl ⟨by rfl, by intro w; go_simp⟩) ?_
        have z0 := hF.cell 0
        have z1 := hF.cell 1
        have f0 := hF.frozen 0
        have f1 := hF.frozen 1
        refine wpAny_ready (rs := [12]) (by kernel_rfl) (by simp) ?_
        refine AllReady.cons rfl (fun K hK => ?_) AllReady.nil
        go_simp
        refine hK _ _ ?_
        clear hK K
        refine wpAny_done (by kernel_rfl) ?_ _
        have d0 := ((hF.set_ 0 (.int .i64 0)).set_ 1 (.int .i64 0)).cell 0
        have bF := (hbc.setCell (p := ⟨wu18.heap.size, 0, none⟩) hgg (.int .i64 0)).setCell (p := ⟨wu18.heap.size, 1, none⟩) hgg (.int .i64 0)
        have hne : gv ≠ wu18.heap.size := by omega
        have hcv2 : (World.setCell (World.setCell wd26 ⟨wu18.heap.size, 0, none⟩ (.int .i64 0)) ⟨wu18.heap.size, 1, none⟩ (.int .i64 0)).cell? ⟨gv, 0, none⟩ = some (.int .i64 (Z : Int)) := by
          rw [World.cell?_setCell_other _ _ _ _ (by intro e; injection e with e1 e2; first | exact hne e1 | exact hne e1.symm), World.cell?_setCell_other _ _ _ _ (by intro e; injection e with e1 e2; first | exact hne e1 | exact hne e1.symm)]; exact hcv
        obtain ⟨wz, hwz⟩ : ∃ wz, wz = (World.setCell (World.setCell wd26 ⟨wu18.heap.size, 0, none⟩ (.int .i64 0)) ⟨wu18.heap.size, 1, none⟩ (.int .i64 0)) := ⟨_, rfl⟩
        rw [← hwz] at d0 bF hcv2 ⊢
        clear hwz z0 z1 f0 f1
        go_wp2
        exact bodyPost_ret (v := .tuple #[.int .i64 (Z : Int), .int .i64 4, .bool true]) (by simp [results, Tryd.results131, go_sem]) rfl ⟨by rw [He.out]; rfl, HB1.out.trans (bF.mono hsz1)⟩
    · refine AllReady.cons rfl (fun K hK => ?_) AllReady.nil
      go_simp
      refine hK _ _ ?_
      clear hK K
      have hgg := hbc.size
      refine wpAny_gen (p := fun W => Below w1.heap.size w1 W ∧ Blk W w0.heap.size 37 #[.int .i64 0, .int .i64 0]) ⟨hbc.alloc hbc.size _, Blk.new _ _ _⟩ ?_
      rintro wf27 ⟨hbc, hF⟩
      refine wpAny_ready (rs := [4]) (by kernel_rfl) (by simp) ?_
      refine AllReady.cons rfl (fun K hK => ?_) AllReady.nil
      go_simp
      refine (unit16_any big (s.drop 2) c d _ (by simp; omega) Hc.out Hd.out).mono ?_
      rintro e wu28 ⟨rfl, hbu⟩
      replace hbc := hbc.trans (hbu.mono hbc.size)
      replace hF := hF.stay hbu
      refine hK _ _ ?_
      clear hK K
      refine wpAny_ready (rs := [5]) (by kernel_rfl) (by simp) ?_
      refine AllReady.cons rfl (fun K hK => ?_) AllReady.nil
      go_simp
      refine hK _ _ ?_
      clear hK K
      refine wpAny_gen (p := fun W => Below w1.heap.size w1 W ∧ Reads W W.heap.size 1 (some ⟨wu28.heap.size, 0, none⟩) 2 [iv (unit2 big a b : Int), iv (unit2 big c d : Int)] ∧ Blk W w0.heap.size 37 #[.int .i64 0, .int .i64 0]) ⟨hbc.alloc hbc.size _, reads_newH _ #[.int .i64 (unit2 big a b : Int), .int .i64 (unit2 big c d : Int)] 3 [iv (unit2 big a b : Int), iv (unit2 big c d : Int)] _ rfl rfl, hF.alloc _⟩ ?_
      rintro ws29 ⟨hbc, hrd, hF⟩
      refine wpAny_ready (rs := [6]) (by kernel_rfl) (by simp) ?_
      refine AllReady.cons rfl (fun K hK => ?_) AllReady.nil
      go_simp
      refine (decode_any _ 2 2 _ [(unit2 big a b : Int), (unit2 big c d : Int)] 1 _ hrd (Nat.le_refl _) (by omega) (hdg1.below hbc)).mono ?_
      rw [Hdec.out]
      rintro e wd30 ⟨v, rfl, hov, hbd⟩
      obtain ⟨gv, cv, rfl, hgv, hgl⟩ := hov.form (by simp)
      have hcv : wd30.cell? ⟨gv, 0, none⟩ = some (.int .i64 (Z : Int)) := hov.cells (g := gv) rfl 0 _ rfl
      have hgF := hF.lt
      replace hF := hF.stay hbd
      replace hbc := hbc.trans (hbd.mono hbc.size)
      refine hK _ _ ?_
      clear hK K
      refine wpAny_take (i := 7) (v := (.tuple #[(.slice (some ⟨gv, 0, none⟩) 1 cv), .agg #[.int .i64 0, .int .i64 0]])) rfl (by kernel_rfl) (by kernel_rfl) (by kernel_rfl) (fun _ _ _ h => h) (Or.inl ⟨by rfl, by intro w; go_simp⟩) ?_
      refine wpAny_take (i := 8) (v := (.slice (some ⟨gv, 0, none⟩) 1 cv)) rfl (by kernel_rfl) (by kernel_rfl) (by kernel_rfl) (fun _ _ _ h => h) (Or.inl ⟨by rfl, by intro w; go_simp⟩) ?_
      refine wpAny_take (i := 9) (v := (.agg #[.int .i64 0, .int .i64 0])) rfl (by kernel_rfl) (by kernel_rfl) (by kernel_rfl) (fun _ _ _ h => h) (Or.inl ⟨by rfl, by intro w; go_simp⟩) ?_
      refine wpAny_take (i := 11) (v := (.slice (some ⟨gv, 0, none⟩) 1 cv)) rfl (by kernel_rfl) (by kernel_rfl) (by kernel_rfl) (fun _ _ _ h => h) (Or.inl ⟨by rfl, by intro w; go_simp⟩) ?_
      have z0 := hF.cell 0
      have z1 := hF.cell 1
      have f0 := hF.frozen 0
      have f1 := hF.frozen 1
      refine wpAny_ready (rs := [12]) (by kernel_rfl) (by simp) ?_
      refine AllReady.cons rfl (fun K hK => ?_) AllReady.nil
      go_simp
      refine hK _ _ ?_
      clear hK K
      refine wpAny_done (by kernel_rfl) ?_ _
      have d0 := ((hF.set_ 0 (.int .i64 0)).set_ 1 (.int .i64 0)).cell 0
      have bF := (hbc.setCell (p := ⟨w0.heap.size, 0, none⟩) hgg (.int .i64 0)).setCell (p := ⟨w0.heap.size, 1, none⟩) hgg (.int .i64 0)
      have hne : gv ≠ w0.heap.size := by omega
      have hcv2 : (World.setCell (World.setCell wd30 ⟨w0.heap.size, 0, none⟩ (.int .i64 0)) ⟨w0.heap.size, 1, none⟩ (.int .i64 0)).cell? ⟨gv, 0, none⟩ = some (.int .i64 (Z : Int)) := by
        rw [World.cell?_setCell_other _ _ _ _ (by intro e; injection e with e1 e2; first | exact hne e1 | exact hne e1.symm), World.cell?_setCell_other _ _ _ _ (by intro e; injection e with e1 e2; first | exact hne e1 | exact hne e1.symm)]; exact hcv
      obtain ⟨wz, hwz⟩ : ∃ wz, wz = (World.setCell (World.setCell wd30 ⟨w0.heap.size, 0, none⟩ (.int .i64 0)) ⟨w0.heap.size, 1, none⟩ (.int .i64 0)) := ⟨_, rfl⟩
      rw [← hwz] at d0 bF hcv2 ⊢
      clear hwz z0 z1 f0 f1
      go_wp2
      exact bodyPost_ret (v := .tuple #[.int .i64 (Z : Int), .int .i64 4, .bool true]) (by simp [results, Tryd.results131, go_sem]) rfl ⟨by rw [He.out]; rfl, HB1.out.trans (bF.mono hsz1)⟩
  · refine AllReady.cons rfl (fun K hK => ?_) AllReady.nil
    go_simp
    refine hK _ _ ?_
    clear hK K
    have hgg := hbc.size
    refine wpAny_gen (p := fun W => Below w1.heap.size w1 W ∧ Blk W w0.heap.size 37 #[.int .i64 0, .int .i64 0]) ⟨hbc.alloc hbc.size _, Blk.new _ _ _⟩ ?_
    rintro wf31 ⟨hbc, hF⟩
    refine wpAny_ready (rs := [1]) (by kernel_rfl) (by simp) ?_
    refine AllReady.cons rfl (fun K hK => ?_) AllReady.nil
    have hcl := K0.out _ hbc
    go_simp
    clear hcl
    refine hK _ _ ?_
    clear hK K
    refine wpAny_ready (rs := [4]) (by kernel_rfl) (by simp) ?_
    refine AllReady.cons rfl (fun K hK => ?_) AllReady.nil
    go_simp
    refine (unit16_any big (s.drop 2) c d _ (by simp; omega) Hc.out Hd.out).mono ?_
    rintro e wu32 ⟨rfl, hbu⟩
    replace hbc := hbc.trans (hbu.mono hbc.size)
    replace hF := hF.stay hbu
    refine hK _ _ ?_
    clear hK K
    refine wpAny_ready (rs := [5]) (by kernel_rfl) (by simp) ?_
    refine AllReady.cons rfl (fun K hK => ?_) AllReady.nil
    go_simp
    refine hK _ _ ?_
    clear hK K
    refine wpAny_gen (p := fun W => Below w1.heap.size w1 W ∧ Reads W W.heap.size 1 (some ⟨wu32.heap.size, 0, none⟩) 2 [iv (unit2 big a b : Int), iv (unit2 big c d : Int)] ∧ Blk W w0.heap.size 37 #[.int .i64 0, .int .i64 0]) ⟨hbc.alloc hbc.size _, reads_newH _ #[.int .i64 (unit2 big a b : Int), .int .i64 (unit2 big c d : Int)] 3 [iv (unit2 big a b : Int), iv (unit2 big c d : Int)] _ rfl rfl, hF.alloc _⟩ ?_
    rintro ws33 ⟨hbc, hrd, hF⟩
    refine wpAny_ready (rs := [6]) (by kernel_rfl) (by simp) ?_
    refine AllReady.cons rfl (fun K hK => ?_) AllReady.nil
    go_simp
    refine (decode_any _ 2 2 _ [(unit2 big a b : Int), (unit2 big c d : Int)] 1 _ hrd (Nat.le_refl _) (by omega) (hdg1.below hbc)).mono ?_
    rw [Hdec.out]
    rintro e wd34 ⟨v, rfl, hov, hbd⟩
    obtain ⟨gv, cv, rfl, hgv, hgl⟩ := hov.form (by simp)
    have hcv : wd34.cell? ⟨gv, 0, none⟩ = some (.int .i64 (Z : Int)) := hov.cells (g := gv) rfl 0 _ rfl
    have hgF := hF.lt
    replace hF := hF.stay hbd
    replace hbc := hbc.trans (hbd.mono hbc.size)
    refine hK _ _ ?_
    clear hK K
    refine wpAny_take (i := 7) (v := (.tuple #[(.slice (some ⟨gv, 0, none⟩) 1 cv), .agg #[.int .i64 0, .int .i64 0]])) rfl (by kernel_rfl) (by kernel_rfl) (by kernel_rfl) (fun _ _ _ h => h) (Or.inl ⟨by rfl, by intro w; go_simp⟩) ?_
    refine wpAny_take (i := 8) (v := (.slice (some ⟨gv, 0, none⟩) 1 cv)) rfl (by kernel_rfl) (by kernel_rfl) (by kernel_rfl) (fun _ _ _ h => h) (Or.inl ⟨by rfl, by intro w; go_simp⟩) ?_
    refine wpAny_take (i := 9) (v := (.agg #[.int .i64 0, .int .i64 0])) rfl (by kernel_rfl) (by kernel_rfl) (by kernel_rfl) (fun _ _ _ h => h) (Or.inl ⟨by rfl, by intro w; go_simp⟩) ?_
    refine wpAny_take (i := 11) (v := (.slice (some ⟨gv, 0, none⟩) 1 cv)) rfl (by kernel_rfl) (by kernel_rfl) (by kernel_rfl) (fun _ _ _ h => h) (Or.inl ⟨by rfl, by intro w; go_simp⟩) ?_
    have z0 := hF.cell 0
    have z1 := hF.cell 1
    have f0 := hF.frozen 0
    have f1 := hF.frozen 1
    refine wpAny_ready (rs := [12]) (by kernel_rfl) (by simp) ?_
    refine AllReady.cons rfl (fun K hK => ?_) AllReady.nil
    go_simp
    refine hK _ _ ?_
    clear hK K
    refine wpAny_done (by kernel_rfl) ?_ _
    have d0 := ((hF.set_ 0 (.int .i64 0)).set_ 1 (.int .i64 0)).cell 0
    have bF := (hbc.setCell (p := ⟨w0.heap.size, 0, none⟩) hgg (.int .i64 0)).setCell (p := ⟨w0.heap.size, 1, none⟩) hgg (.int .i64 0)
    have hne : gv ≠ w0.heap.size := by omega
    have hcv2 : (World.setCell (World.setCell wd34 ⟨w0.heap.size, 0, none⟩ (.int .i64 0)) ⟨w0.heap.size, 1, none⟩ (.int .i64 0)).cell? ⟨gv, 0, none⟩ = some (.int .i64 (Z : Int)) := by
      rw [World.cell?_setCell_other _ _ _ _ (by intro e; injection e with e1 e2; first | exact hne e1 | exact hne e1.symm), World.cell?_setCell_other _ _ _ _ (by intro e; injection e with e1 e2; first | exact hne e1 | exact hne e1.symm)]; exact hcv
    obtain ⟨wz, hwz⟩ : ∃ wz, wz = (World.setCell (World.setCell wd34 ⟨w0.heap.size, 0, none⟩ (.int .i64 0)) ⟨w0.heap.size, 1, none⟩ (.int .i64 0)) := ⟨_, rfl⟩
    rw [← hwz] at d0 bF hcv2 ⊢
    clear hwz z0 z1 f0 f1
    go_wp2
    exact bodyPost_ret (v := .tuple #[.int .i64 (Z : Int), .int .i64 4, .bool true]) (by simp [results, Tryd.results131, go_sem]) rfl ⟨by rw [He.out]; rfl, HB1.out.trans (bF.mono hsz1)⟩
end Go.Proofs.YtbcbmmgfdobdiaaDoor
