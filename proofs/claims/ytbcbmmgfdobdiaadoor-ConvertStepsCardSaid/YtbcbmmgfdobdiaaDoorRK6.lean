/- The reference's Put (layer 7) with units of two bytes (printed by gen_rk6.py). -/
import Derived.Test.YtbcbmmgfdobdiaaDoorRK5
namespace Go.Proofs.YtbcbmmgfdobdiaaDoor
open Go.RowKit

theorem form16_le (x : Int) : (form16 x).length ≤ 100000 := by unfold form16; repeat (first | exact Nat.le_of_ble_eq_true rfl | split)
set_option maxRecDepth 100000 in
set_option maxHeartbeats 4000000 in
theorem rput_u16 (kind : Int) (big : Bool) (A : Option Addr) (n c : Nat) (codes : List Int) (x : Int) (w : World) (h : Reads w w.heap.size 1 A n (codes.map iv)) (hk : (kind = 2 ∧ big = true) ∨ (kind = 3 ∧ big = false)) (hx : scalB x = true) :
    Calls Tryd.prog 29 #[.agg #[.int .i64 kind, .slice A n c], .int .i64 x] w fun r w' => r = .returned (formV (formK (cdOf kind codes) x)) ∧ Below w.heap.size w w' := by
  have HB := Lib.hid (Blk.new w 26 #[.int .i64 kind, .slice A n c])
  have hL := below_new w (.cells #[.int .i64 kind, .slice A n c] 26)
  have HL := Lib.hid hL
  have HR := Lib.hid (h.stay hL)
  have HC := Lib.hid (show CkE kind codes 0 from Or.inl ⟨by omega, rfl⟩)
  have Hx := Lib.hid hx
  have He := Lib.hid (show formK (cdOf kind codes) x = some (formL16 big x.toNat) by
    rcases hk with ⟨rfl, rfl⟩ | ⟨rfl, rfl⟩
    · show formK (.u16 true) x = _; simp only [formK]; rw [if_pos hx]
    · show formK (.u16 false) x = _; simp only [formK]; rw [if_pos hx])
  have hq1 : (kind == 1) = false := by simp; omega
  have hq4 : (kind == 4) = false := by simp; omega
  have Hq := Lib.hid (show (kind == 2) = big by rcases hk with ⟨rfl, rfl⟩ | ⟨rfl, rfl⟩ <;> rfl)
  have g0 := HB.out.cell 0
  have g1 := HB.out.cell 1
  clear hL h hx hk
  go_enter Tryd.func29, Tryd.ntmps29
  go_wp2_with fail
  refine (rcheck_any kind A n c codes 0 _ HR.out HC.out).mono ?_
  rintro r w1 ⟨rfl, hb1⟩
  clear g0 g1
  have hB := Lib.hid (HL.out.trans (hb1.mono HL.out.size))
  have HB1 := Lib.hid (HB.out.stay hb1)
  have K0 := Lib.hid (show ∀ w', Below w1.heap.size w1 w' → w'.cell? ⟨w.heap.size, 0, none⟩ = some (.int .i64 kind) from fun w' hb => (HB1.out.stay hb).cell 0)
  clear hb1
  go_wp2_with fail
  refine (rscalar_any x _).mono ?_
  rintro r w2 ⟨rfl, rfl⟩
  rw [Hx.out]
  have g0 := HB1.out.cell 0
  have g1 := HB1.out.cell 1
  go_wp2_with fail
  clear g0 g1
  have hq2 := Hq.out
  refine wp_region_any (by kernel_rfl) ?_
  change wpAny _ _ _ _ _ _ _ (World.drew _)
  refine wpAny_gen (p := fun W => Below w1.heap.size w1 W) (Below.refl _ _).drew ?_
  intro w0 hbc
  refine wpAny_take (i := 0) (v := .int .i64 x) rfl (by kernel_rfl) (by kernel_rfl) (by kernel_rfl) (fun _ _ _ h => h) (Or.inl ⟨by rfl, by intro w; go_simp⟩) ?_
  refine wpAny_take (i := 2) (v := .pointer (some ⟨w.heap.size, 0, none⟩)) rfl (by kernel_rfl) (by kernel_rfl) (by kernel_rfl) (fun _ _ _ h => h) (Or.inl ⟨by rfl, by intro w; go_simp⟩) ?_
  refine wpAny_ready (rs := [1, 3, 9]) (by kernel_rfl) (by simp) ?_
  refine AllReady.cons rfl (fun K hK => ?_) ?_
  · skip
    go_simp
    refine (rform_any x _ Hx.out).mono ?_
    rintro e wa1 ⟨v, rfl, hov, hbu⟩
    obtain ⟨Av, cv, rfl, _, hrd⟩ := val_of_own hov
    replace hbc := hbc.trans (hbu.mono hbc.size)
    clear hov hbu
    refine hK _ _ ?_
    clear hK K
    refine wpAny_ready (rs := [3, 9]) (by kernel_rfl) (by simp) ?_
    refine AllReady.cons rfl (fun K hK => ?_) ?_
    · skip
      have hcl := (K0.out _ hbc)
      go_simp
      clear hcl
      refine hK _ _ ?_
      clear hK K
      refine wpAny_take (i := 4) (v := .bool big) rfl (by kernel_rfl) (by kernel_rfl) (by kernel_rfl) (fun _ _ _ h => h) (Or.inl ⟨by rfl, by intro w; first | go_simp | (simp only [Hq.out]; go_simp)⟩) ?_
      refine wpAny_ready (rs := [5, 9]) (by kernel_rfl) (by simp) ?_
      refine AllReady.cons rfl (fun K hK => ?_) ?_
      · skip
        go_simp
        refine (rbytes_any _ cv Av (form16 x) big false _ hrd (form16_le x)).mono ?_
        rintro e wb2 ⟨rfl, hbu⟩
        rw [bytes_form x big Hx.out]
        replace hbc := hbc.trans (hbu.mono hbc.size)
        clear hbu hrd
        refine hK _ _ ?_
        clear hK K
        refine wpAny_take (i := 6) (v := .tuple #[.string ⟨(formL16 big x.toNat).toArray⟩, .agg #[.int .i64 0, .int .i64 0]]) rfl (by kernel_rfl) (by kernel_rfl) (by kernel_rfl) (fun _ _ _ h => h) (Or.inl ⟨by rfl, by intro w; go_simp⟩) ?_
        refine wpAny_take (i := 7) (v := .string ⟨(formL16 big x.toNat).toArray⟩) rfl (by kernel_rfl) (by kernel_rfl) (by kernel_rfl) (fun _ _ _ h => h) (Or.inl ⟨by rfl, by intro w; go_simp⟩) ?_
        refine wpAny_take (i := 8) (v := .agg #[.int .i64 0, .int .i64 0]) rfl (by kernel_rfl) (by kernel_rfl) (by kernel_rfl) (fun _ _ _ h => h) (Or.inl ⟨by rfl, by intro w; go_simp⟩) ?_
        refine wpAny_ready (rs := [9]) (by kernel_rfl) (by simp) ?_
        refine AllReady.cons rfl (fun K hK => ?_) AllReady.nil
        go_simp
        refine hK _ _ ?_
        clear hK K
        have hgg := hbc.size
        refine wpAny_gen (p := fun W => Below w1.heap.size w1 W ∧ Blk W wb2.heap.size 37 #[.int .i64 0, .int .i64 0]) ⟨hbc.alloc hbc.size _, Blk.new _ _ _⟩ ?_
        clear hbc
        rintro wf3 ⟨hbc, hF⟩
        refine wpAny_take (i := 10) (v := .string ⟨(formL16 big x.toNat).toArray⟩) rfl (by kernel_rfl) (by kernel_rfl) (by kernel_rfl) (fun _ _ _ h => h) (Or.inl ⟨by rfl, by intro w; go_simp⟩) ?_
        have z0 := hF.cell 0
        have z1 := hF.cell 1
        have f0 := hF.frozen 0
        have f1 := hF.frozen 1
        refine wpAny_ready (rs := [11]) (by kernel_rfl) (by simp) ?_
        refine AllReady.cons rfl (fun K hK => ?_) AllReady.nil
        go_simp
        refine hK _ _ ?_
        clear hK K
        refine wpAny_done (by kernel_rfl) ?_ _
        have bF := (hbc.setCell (p := ⟨wb2.heap.size, 0, none⟩) hgg (.int .i64 0)).setCell (p := ⟨wb2.heap.size, 1, none⟩) hgg (.int .i64 0)
        obtain ⟨wz, hwz⟩ : ∃ wz, wz = (World.setCell (World.setCell wf3 ⟨wb2.heap.size, 0, none⟩ (.int .i64 0)) ⟨wb2.heap.size, 1, none⟩ (.int .i64 0)) := ⟨_, rfl⟩
        rw [← hwz] at bF ⊢
        clear hwz z0 z1 f0 f1
        go_wp2
        exact bodyPost_ret (v := .tuple #[.string ⟨(formL16 big x.toNat).toArray⟩, .bool true]) (by simp [results, Tryd.results29, go_sem]) rfl ⟨by rw [He.out]; rfl, hB.out.trans (bF.mono hB.out.size)⟩
      · skip
        refine AllReady.cons rfl (fun K hK => ?_) AllReady.nil
        go_simp
        refine hK _ _ ?_
        clear hK K
        have hgg := hbc.size
        refine wpAny_gen (p := fun W => Below w1.heap.size w1 W ∧ Blk W wa1.heap.size 37 #[.int .i64 0, .int .i64 0] ∧ Reads W W.heap.size 1 Av (form16 x).length ((form16 x).map iv)) ⟨hbc.alloc hbc.size _, Blk.new _ _ _, hrd.stay (below_new _ _)⟩ ?_
        clear hbc hrd
        rintro wf4 ⟨hbc, hF, hrd⟩
        refine wpAny_ready (rs := [5]) (by kernel_rfl) (by simp) ?_
        refine AllReady.cons rfl (fun K hK => ?_) AllReady.nil
        go_simp
        refine (rbytes_any _ cv Av (form16 x) big false _ hrd (form16_le x)).mono ?_
        rintro e wb5 ⟨rfl, hbu⟩
        rw [bytes_form x big Hx.out]
        replace hF := hF.stay hbu
        replace hbc := hbc.trans (hbu.mono hbc.size)
        clear hbu hrd
        refine hK _ _ ?_
        clear hK K
        refine wpAny_take (i := 6) (v := .tuple #[.string ⟨(formL16 big x.toNat).toArray⟩, .agg #[.int .i64 0, .int .i64 0]]) rfl (by kernel_rfl) (by kernel_rfl) (by kernel_rfl) (fun _ _ _ h => h) (Or.inl ⟨by rfl, by intro w; go_simp⟩) ?_
        refine wpAny_take (i := 7) (v := .string ⟨(formL16 big x.toNat).toArray⟩) rfl (by kernel_rfl) (by kernel_rfl) (by kernel_rfl) (fun _ _ _ h => h) (Or.inl ⟨by rfl, by intro w; go_simp⟩) ?_
        refine wpAny_take (i := 8) (v := .agg #[.int .i64 0, .int .i64 0]) rfl (by kernel_rfl) (by kernel_rfl) (by kernel_rfl) (fun _ _ _ h => h) (Or.inl ⟨by rfl, by intro w; go_simp⟩) ?_
        refine wpAny_take (i := 10) (v := .string ⟨(formL16 big x.toNat).toArray⟩) rfl (by kernel_rfl) (by kernel_rfl) (by kernel_rfl) (fun _ _ _ h => h) (Or.inl ⟨by rfl, by intro w; go_simp⟩) ?_
        have z0 := hF.cell 0
        have z1 := hF.cell 1
        have f0 := hF.frozen 0
        have f1 := hF.frozen 1
        refine wpAny_ready (rs := [11]) (by kernel_rfl) (by simp) ?_
        refine AllReady.cons rfl (fun K hK => ?_) AllReady.nil
        go_simp
        refine hK _ _ ?_
        clear hK K
        refine wpAny_done (by kernel_rfl) ?_ _
        have bF := (hbc.setCell (p := ⟨wa1.heap.size, 0, none⟩) hgg (.int .i64 0)).setCell (p := ⟨wa1.heap.size, 1, none⟩) hgg (.int .i64 0)
        obtain ⟨wz, hwz⟩ : ∃ wz, wz = (World.setCell (World.setCell wb5 ⟨wa1.heap.size, 0, none⟩ (.int .i64 0)) ⟨wa1.heap.size, 1, none⟩ (.int .i64 0)) := ⟨_, rfl⟩
        rw [← hwz] at bF ⊢
        clear hwz z0 z1 f0 f1
        go_wp2
        exact bodyPost_ret (v := .tuple #[.string ⟨(formL16 big x.toNat).toArray⟩, .bool true]) (by simp [results, Tryd.results29, go_sem]) rfl ⟨by rw [He.out]; rfl, hB.out.trans (bF.mono hB.out.size)⟩
    · skip
      refine AllReady.cons rfl (fun K hK => ?_) AllReady.nil
      go_simp
      refine hK _ _ ?_
      clear hK K
      have hgg := hbc.size
      refine wpAny_gen (p := fun W => Below w1.heap.size w1 W ∧ Blk W wa1.heap.size 37 #[.int .i64 0, .int .i64 0] ∧ Reads W W.heap.size 1 Av (form16 x).length ((form16 x).map iv)) ⟨hbc.alloc hbc.size _, Blk.new _ _ _, hrd.stay (below_new _ _)⟩ ?_
      clear hbc hrd
      rintro wf6 ⟨hbc, hF, hrd⟩
      refine wpAny_ready (rs := [3]) (by kernel_rfl) (by simp) ?_
      refine AllReady.cons rfl (fun K hK => ?_) AllReady.nil
      have hcl := (K0.out _ hbc)
      go_simp
      clear hcl
      refine hK _ _ ?_
      clear hK K
      refine wpAny_take (i := 4) (v := .bool big) rfl (by kernel_rfl) (by kernel_rfl) (by kernel_rfl) (fun _ _ _ h => h) (Or.inl ⟨by rfl, by intro w; first | go_simp | (simp only [Hq.out]; go_simp)⟩) ?_
      refine wpAny_ready (rs := [5]) (by kernel_rfl) (by simp) ?_
      refine AllReady.cons rfl (fun K hK => ?_) AllReady.nil
      go_simp
      refine (rbytes_any _ cv Av (form16 x) big false _ hrd (form16_le x)).mono ?_
      rintro e wb7 ⟨rfl, hbu⟩
      rw [bytes_form x big Hx.out]
      replace hF := hF.stay hbu
      replace hbc := hbc.trans (hbu.mono hbc.size)
      clear hbu hrd
      refine hK _ _ ?_
      clear hK K
      refine wpAny_take (i := 6) (v := .tuple #[.string ⟨(formL16 big x.toNat).toArray⟩, .agg #[.int .i64 0, .int .i64 0]]) rfl (by kernel_rfl) (by kernel_rfl) (by kernel_rfl) (fun _ _ _ h => h) (Or.inl ⟨by rfl, by intro w; go_simp⟩) ?_
      refine wpAny_take (i := 7) (v := .string ⟨(formL16 big x.toNat).toArray⟩) rfl (by kernel_rfl) (by kernel_rfl) (by kernel_rfl) (fun _ _ _ h => h) (Or.inl ⟨by rfl, by intro w; go_simp⟩) ?_
      refine wpAny_take (i := 8) (v := .agg #[.int .i64 0, .int .i64 0]) rfl (by kernel_rfl) (by kernel_rfl) (by kernel_rfl) (fun _ _ _ h => h) (Or.inl ⟨by rfl, by intro w; go_simp⟩) ?_
      refine wpAny_take (i := 10) (v := .string ⟨(formL16 big x.toNat).toArray⟩) rfl (by kernel_rfl) (by kernel_rfl) (by kernel_rfl) (fun _ _ _ h => h) (Or.inl ⟨by rfl, by intro w; go_simp⟩) ?_
      have z0 := hF.cell 0
      have z1 := hF.cell 1
      have f0 := hF.frozen 0
      have f1 := hF.frozen 1
      refine wpAny_ready (rs := [11]) (by kernel_rfl) (by simp) ?_
      refine AllReady.cons rfl (fun K hK => ?_) AllReady.nil
      go_simp
      refine hK _ _ ?_
      clear hK K
      refine wpAny_done (by kernel_rfl) ?_ _
      have bF := (hbc.setCell (p := ⟨wa1.heap.size, 0, none⟩) hgg (.int .i64 0)).setCell (p := ⟨wa1.heap.size, 1, none⟩) hgg (.int .i64 0)
      obtain ⟨wz, hwz⟩ : ∃ wz, wz = (World.setCell (World.setCell wb7 ⟨wa1.heap.size, 0, none⟩ (.int .i64 0)) ⟨wa1.heap.size, 1, none⟩ (.int .i64 0)) := ⟨_, rfl⟩
      rw [← hwz] at bF ⊢
      clear hwz z0 z1 f0 f1
      go_wp2
      exact bodyPost_ret (v := .tuple #[.string ⟨(formL16 big x.toNat).toArray⟩, .bool true]) (by simp [results, Tryd.results29, go_sem]) rfl ⟨by rw [He.out]; rfl, hB.out.trans (bF.mono hB.out.size)⟩
  · skip
    refine AllReady.cons rfl (fun K hK => ?_) ?_
    · skip
      have hcl := (K0.out _ hbc)
      go_simp
      clear hcl
      refine hK _ _ ?_
      clear hK K
      refine wpAny_take (i := 4) (v := .bool big) rfl (by kernel_rfl) (by kernel_rfl) (by kernel_rfl) (fun _ _ _ h => h) (Or.inl ⟨by rfl, by intro w; first | go_simp | (simp only [Hq.out]; go_simp)⟩) ?_
      refine wpAny_ready (rs := [1, 9]) (by kernel_rfl) (by simp) ?_
      refine AllReady.cons rfl (fun K hK => ?_) ?_
      · skip
        go_simp
        refine (rform_any x _ Hx.out).mono ?_
        rintro e wa8 ⟨v, rfl, hov, hbu⟩
        obtain ⟨Av, cv, rfl, _, hrd⟩ := val_of_own hov
        replace hbc := hbc.trans (hbu.mono hbc.size)
        clear hov hbu
        refine hK _ _ ?_
        clear hK K
        refine wpAny_ready (rs := [5, 9]) (by kernel_rfl) (by simp) ?_
        refine AllReady.cons rfl (fun K hK => ?_) ?_
        · skip
          go_simp
          refine (rbytes_any _ cv Av (form16 x) big false _ hrd (form16_le x)).mono ?_
          rintro e wb9 ⟨rfl, hbu⟩
          rw [bytes_form x big Hx.out]
          replace hbc := hbc.trans (hbu.mono hbc.size)
          clear hbu hrd
          refine hK _ _ ?_
          clear hK K
          refine wpAny_take (i := 6) (v := .tuple #[.string ⟨(formL16 big x.toNat).toArray⟩, .agg #[.int .i64 0, .int .i64 0]]) rfl (by kernel_rfl) (by kernel_rfl) (by kernel_rfl) (fun _ _ _ h => h) (Or.inl ⟨by rfl, by intro w; go_simp⟩) ?_
          refine wpAny_take (i := 7) (v := .string ⟨(formL16 big x.toNat).toArray⟩) rfl (by kernel_rfl) (by kernel_rfl) (by kernel_rfl) (fun _ _ _ h => h) (Or.inl ⟨by rfl, by intro w; go_simp⟩) ?_
          refine wpAny_take (i := 8) (v := .agg #[.int .i64 0, .int .i64 0]) rfl (by kernel_rfl) (by kernel_rfl) (by kernel_rfl) (fun _ _ _ h => h) (Or.inl ⟨by rfl, by intro w; go_simp⟩) ?_
          refine wpAny_ready (rs := [9]) (by kernel_rfl) (by simp) ?_
          refine AllReady.cons rfl (fun K hK => ?_) AllReady.nil
          go_simp
          refine hK _ _ ?_
          clear hK K
          have hgg := hbc.size
          refine wpAny_gen (p := fun W => Below w1.heap.size w1 W ∧ Blk W wb9.heap.size 37 #[.int .i64 0, .int .i64 0]) ⟨hbc.alloc hbc.size _, Blk.new _ _ _⟩ ?_
          clear hbc
          rintro wf10 ⟨hbc, hF⟩
          refine wpAny_take (i := 10) (v := .string ⟨(formL16 big x.toNat).toArray⟩) rfl (by kernel_rfl) (by kernel_rfl) (by kernel_rfl) (fun _ _ _ h => h) (Or.inl ⟨by rfl, by intro w; go_simp⟩) ?_
          have z0 := hF.cell 0
          have z1 := hF.cell 1
          have f0 := hF.frozen 0
          have f1 := hF.frozen 1
          refine wpAny_ready (rs := [11]) (by kernel_rfl) (by simp) ?_
          refine AllReady.cons rfl (fun K hK => ?_) AllReady.nil
          go_simp
          refine hK _ _ ?_
          clear hK K
          refine wpAny_done (by kernel_rfl) ?_ _
          have bF := (hbc.setCell (p := ⟨wb9.heap.size, 0, none⟩) hgg (.int .i64 0)).setCell (p := ⟨wb9.heap.size, 1, none⟩) hgg (.int .i64 0)
          obtain ⟨wz, hwz⟩ : ∃ wz, wz = (World.setCell (World.setCell wf10 ⟨wb9.heap.size, 0, none⟩ (.int .i64 0)) ⟨wb9.heap.size, 1, none⟩ (.int .i64 0)) := ⟨_, rfl⟩
          rw [← hwz] at bF ⊢
          clear hwz z0 z1 f0 f1
          go_wp2
          exact bodyPost_ret (v := .tuple #[.string ⟨(formL16 big x.toNat).toArray⟩, .bool true]) (by simp [results, Tryd.results29, go_sem]) rfl ⟨by rw [He.out]; rfl, hB.out.trans (bF.mono hB.out.size)⟩
        · skip
          refine AllReady.cons rfl (fun K hK => ?_) AllReady.nil
          go_simp
          refine hK _ _ ?_
          clear hK K
          have hgg := hbc.size
          refine wpAny_gen (p := fun W => Below w1.heap.size w1 W ∧ Blk W wa8.heap.size 37 #[.int .i64 0, .int .i64 0] ∧ Reads W W.heap.size 1 Av (form16 x).length ((form16 x).map iv)) ⟨hbc.alloc hbc.size _, Blk.new _ _ _, hrd.stay (below_new _ _)⟩ ?_
          clear hbc hrd
          rintro wf11 ⟨hbc, hF, hrd⟩
          refine wpAny_ready (rs := [5]) (by kernel_rfl) (by simp) ?_
          refine AllReady.cons rfl (fun K hK => ?_) AllReady.nil
          go_simp
          refine (rbytes_any _ cv Av (form16 x) big false _ hrd (form16_le x)).mono ?_
          rintro e wb12 ⟨rfl, hbu⟩
          rw [bytes_form x big Hx.out]
          replace hF := hF.stay hbu
          replace hbc := hbc.trans (hbu.mono hbc.size)
          clear hbu hrd
          refine hK _ _ ?_
          clear hK K
          refine wpAny_take (i := 6) (v := .tuple #[.string ⟨(formL16 big x.toNat).toArray⟩, .agg #[.int .i64 0, .int .i64 0]]) rfl (by kernel_rfl) (by kernel_rfl) (by kernel_rfl) (fun _ _ _ h => h) (Or.inl ⟨by rfl, by intro w; go_simp⟩) ?_
          refine wpAny_take (i := 7) (v := .string ⟨(formL16 big x.toNat).toArray⟩) rfl (by kernel_rfl) (by kernel_rfl) (by kernel_rfl) (fun _ _ _ h => h) (Or.inl ⟨by rfl, by intro w; go_simp⟩) ?_
          refine wpAny_take (i := 8) (v := .agg #[.int .i64 0, .int .i64 0]) rfl (by kernel_rfl) (by kernel_rfl) (by kernel_rfl) (fun _ _ _ h => h) (Or.inl ⟨by rfl, by intro w; go_simp⟩) ?_
          refine wpAny_take (i := 10) (v := .string ⟨(formL16 big x.toNat).toArray⟩) rfl (by kernel_rfl) (by kernel_rfl) (by kernel_rfl) (fun _ _ _ h => h) (Or.inl ⟨by rfl, by intro w; go_simp⟩) ?_
          have z0 := hF.cell 0
          have z1 := hF.cell 1
          have f0 := hF.frozen 0
          have f1 := hF.frozen 1
          refine wpAny_ready (rs := [11]) (by kernel_rfl) (by simp) ?_
          refine AllReady.cons rfl (fun K hK => ?_) AllReady.nil
          go_simp
          refine hK _ _ ?_
          clear hK K
          refine wpAny_done (by kernel_rfl) ?_ _
          have bF := (hbc.setCell (p := ⟨wa8.heap.size, 0, none⟩) hgg (.int .i64 0)).setCell (p := ⟨wa8.heap.size, 1, none⟩) hgg (.int .i64 0)
          obtain ⟨wz, hwz⟩ : ∃ wz, wz = (World.setCell (World.setCell wb12 ⟨wa8.heap.size, 0, none⟩ (.int .i64 0)) ⟨wa8.heap.size, 1, none⟩ (.int .i64 0)) := ⟨_, rfl⟩
          rw [← hwz] at bF ⊢
          clear hwz z0 z1 f0 f1
          go_wp2
          exact bodyPost_ret (v := .tuple #[.string ⟨(formL16 big x.toNat).toArray⟩, .bool true]) (by simp [results, Tryd.results29, go_sem]) rfl ⟨by rw [He.out]; rfl, hB.out.trans (bF.mono hB.out.size)⟩
      · skip
        refine AllReady.cons rfl (fun K hK => ?_) AllReady.nil
        go_simp
        refine hK _ _ ?_
        clear hK K
        have hgg := hbc.size
        refine wpAny_gen (p := fun W => Below w1.heap.size w1 W ∧ Blk W w0.heap.size 37 #[.int .i64 0, .int .i64 0]) ⟨hbc.alloc hbc.size _, Blk.new _ _ _⟩ ?_
        clear hbc
        rintro wf13 ⟨hbc, hF⟩
        refine wpAny_ready (rs := [1]) (by kernel_rfl) (by simp) ?_
        refine AllReady.cons rfl (fun K hK => ?_) AllReady.nil
        go_simp
        refine (rform_any x _ Hx.out).mono ?_
        rintro e wa14 ⟨v, rfl, hov, hbu⟩
        obtain ⟨Av, cv, rfl, _, hrd⟩ := val_of_own hov
        replace hF := hF.stay hbu
        replace hbc := hbc.trans (hbu.mono hbc.size)
        clear hov hbu
        refine hK _ _ ?_
        clear hK K
        refine wpAny_ready (rs := [5]) (by kernel_rfl) (by simp) ?_
        refine AllReady.cons rfl (fun K hK => ?_) AllReady.nil
        go_simp
        refine (rbytes_any _ cv Av (form16 x) big false _ hrd (form16_le x)).mono ?_
        rintro e wb15 ⟨rfl, hbu⟩
        rw [bytes_form x big Hx.out]
        replace hF := hF.stay hbu
        replace hbc := hbc.trans (hbu.mono hbc.size)
        clear hbu hrd
        refine hK _ _ ?_
        clear hK K
        refine wpAny_take (i := 6) (v := .tuple #[.string ⟨(formL16 big x.toNat).toArray⟩, .agg #[.int .i64 0, .int .i64 0]]) rfl (by kernel_rfl) (by kernel_rfl) (by kernel_rfl) (fun _ _ _ h => h) (Or.inl ⟨by rfl, by intro w; go_simp⟩) ?_
        refine wpAny_take (i := 7) (v := .string ⟨(formL16 big x.toNat).toArray⟩) rfl (by kernel_rfl) (by kernel_rfl) (by kernel_rfl) (fun _ _ _ h => h) (Or.inl ⟨by rfl, by intro w; go_simp⟩) ?_
        refine wpAny_take (i := 8) (v := .agg #[.int .i64 0, .int .i64 0]) rfl (by kernel_rfl) (by kernel_rfl) (by kernel_rfl) (fun _ _ _ h => h) (Or.inl ⟨by rfl, by intro w; go_simp⟩) ?_
        refine wpAny_take (i := 10) (v := .string ⟨(formL16 big x.toNat).toArray⟩) rfl (by kernel_rfl) (by kernel_rfl) (by kernel_rfl) (fun _ _ _ h => h) (Or.inl ⟨by rfl, by intro w; go_simp⟩) ?_
        have z0 := hF.cell 0
        have z1 := hF.cell 1
        have f0 := hF.frozen 0
        have f1 := hF.frozen 1
        refine wpAny_ready (rs := [11]) (by kernel_rfl) (by simp) ?_
        refine AllReady.cons rfl (fun K hK => ?_) AllReady.nil
        go_simp
        refine hK _ _ ?_
        clear hK K
        refine wpAny_done (by kernel_rfl) ?_ _
        have bF := (hbc.setCell (p := ⟨w0.heap.size, 0, none⟩) hgg (.int .i64 0)).setCell (p := ⟨w0.heap.size, 1, none⟩) hgg (.int .i64 0)
        obtain ⟨wz, hwz⟩ : ∃ wz, wz = (World.setCell (World.setCell wb15 ⟨w0.heap.size, 0, none⟩ (.int .i64 0)) ⟨w0.heap.size, 1, none⟩ (.int .i64 0)) := ⟨_, rfl⟩
        rw [← hwz] at bF ⊢
        clear hwz z0 z1 f0 f1
        go_wp2
        exact bodyPost_ret (v := .tuple #[.string ⟨(formL16 big x.toNat).toArray⟩, .bool true]) (by simp [results, Tryd.results29, go_sem]) rfl ⟨by rw [He.out]; rfl, hB.out.trans (bF.mono hB.out.size)⟩
    · skip
      refine AllReady.cons rfl (fun K hK => ?_) AllReady.nil
      go_simp
      refine hK _ _ ?_
      clear hK K
      have hgg := hbc.size
      refine wpAny_gen (p := fun W => Below w1.heap.size w1 W ∧ Blk W w0.heap.size 37 #[.int .i64 0, .int .i64 0]) ⟨hbc.alloc hbc.size _, Blk.new _ _ _⟩ ?_
      clear hbc
      rintro wf16 ⟨hbc, hF⟩
      refine wpAny_ready (rs := [1, 3]) (by kernel_rfl) (by simp) ?_
      refine AllReady.cons rfl (fun K hK => ?_) ?_
      · skip
        go_simp
        refine (rform_any x _ Hx.out).mono ?_
        rintro e wa17 ⟨v, rfl, hov, hbu⟩
        obtain ⟨Av, cv, rfl, _, hrd⟩ := val_of_own hov
        replace hF := hF.stay hbu
        replace hbc := hbc.trans (hbu.mono hbc.size)
        clear hov hbu
        refine hK _ _ ?_
        clear hK K
        refine wpAny_ready (rs := [3]) (by kernel_rfl) (by simp) ?_
        refine AllReady.cons rfl (fun K hK => ?_) AllReady.nil
        have hcl := (K0.out _ hbc)
        go_simp
        clear hcl
        refine hK _ _ ?_
        clear hK K
        refine wpAny_take (i := 4) (v := .bool big) rfl (by kernel_rfl) (by kernel_rfl) (by kernel_rfl) (fun _ _ _ h => h) (Or.inl ⟨by rfl, by intro w; first | go_simp | (simp only [Hq.out]; go_simp)⟩) ?_
        refine wpAny_ready (rs := [5]) (by kernel_rfl) (by simp) ?_
        refine AllReady.cons rfl (fun K hK => ?_) AllReady.nil
        go_simp
        refine (rbytes_any _ cv Av (form16 x) big false _ hrd (form16_le x)).mono ?_
        rintro e wb18 ⟨rfl, hbu⟩
        rw [bytes_form x big Hx.out]
        replace hF := hF.stay hbu
        replace hbc := hbc.trans (hbu.mono hbc.size)
        clear hbu hrd
        refine hK _ _ ?_
        clear hK K
        refine wpAny_take (i := 6) (v := .tuple #[.string ⟨(formL16 big x.toNat).toArray⟩, .agg #[.int .i64 0, .int .i64 0]]) rfl (by kernel_rfl) (by kernel_rfl) (by kernel_rfl) (fun _ _ _ h => h) (Or.inl ⟨by rfl, by intro w; go_simp⟩) ?_
        refine wpAny_take (i := 7) (v := .string ⟨(formL16 big x.toNat).toArray⟩) rfl (by kernel_rfl) (by kernel_rfl) (by kernel_rfl) (fun _ _ _ h => h) (Or.inl ⟨by rfl, by intro w; go_simp⟩) ?_
        refine wpAny_take (i := 8) (v := .agg #[.int .i64 0, .int .i64 0]) rfl (by kernel_rfl) (by kernel_rfl) (by kernel_rfl) (fun _ _ _ h => h) (Or.inl ⟨by rfl, by intro w; go_simp⟩) ?_
        refine wpAny_take (i := 10) (v := .string ⟨(formL16 big x.toNat).toArray⟩) rfl (by kernel_rfl) (by kernel_rfl) (by kernel_rfl) (fun _ _ _ h => h) (Or.inl ⟨by rfl, by intro w; go_simp⟩) ?_
        have z0 := hF.cell 0
        have z1 := hF.cell 1
        have f0 := hF.frozen 0
        have f1 := hF.frozen 1
        refine wpAny_ready (rs := [11]) (by kernel_rfl) (by simp) ?_
        refine AllReady.cons rfl (fun K hK => ?_) AllReady.nil
        go_simp
        refine hK _ _ ?_
        clear hK K
        refine wpAny_done (by kernel_rfl) ?_ _
        have bF := (hbc.setCell (p := ⟨w0.heap.size, 0, none⟩) hgg (.int .i64 0)).setCell (p := ⟨w0.heap.size, 1, none⟩) hgg (.int .i64 0)
        obtain ⟨wz, hwz⟩ : ∃ wz, wz = (World.setCell (World.setCell wb18 ⟨w0.heap.size, 0, none⟩ (.int .i64 0)) ⟨w0.heap.size, 1, none⟩ (.int .i64 0)) := ⟨_, rfl⟩
        rw [← hwz] at bF ⊢
        clear hwz z0 z1 f0 f1
        go_wp2
        exact bodyPost_ret (v := .tuple #[.string ⟨(formL16 big x.toNat).toArray⟩, .bool true]) (by simp [results, Tryd.results29, go_sem]) rfl ⟨by rw [He.out]; rfl, hB.out.trans (bF.mono hB.out.size)⟩
      · skip
        refine AllReady.cons rfl (fun K hK => ?_) AllReady.nil
        have hcl := (K0.out _ hbc)
        go_simp
        clear hcl
        refine hK _ _ ?_
        clear hK K
        refine wpAny_take (i := 4) (v := .bool big) rfl (by kernel_rfl) (by kernel_rfl) (by kernel_rfl) (fun _ _ _ h => h) (Or.inl ⟨by rfl, by intro w; first | go_simp | (simp only [Hq.out]; go_simp)⟩) ?_
        refine wpAny_ready (rs := [1]) (by kernel_rfl) (by simp) ?_
        refine AllReady.cons rfl (fun K hK => ?_) AllReady.nil
        go_simp
        refine (rform_any x _ Hx.out).mono ?_
        rintro e wa19 ⟨v, rfl, hov, hbu⟩
        obtain ⟨Av, cv, rfl, _, hrd⟩ := val_of_own hov
        replace hF := hF.stay hbu
        replace hbc := hbc.trans (hbu.mono hbc.size)
        clear hov hbu
        refine hK _ _ ?_
        clear hK K
        refine wpAny_ready (rs := [5]) (by kernel_rfl) (by simp) ?_
        refine AllReady.cons rfl (fun K hK => ?_) AllReady.nil
        go_simp
        refine (rbytes_any _ cv Av (form16 x) big false _ hrd (form16_le x)).mono ?_
        rintro e wb20 ⟨rfl, hbu⟩
        rw [bytes_form x big Hx.out]
        replace hF := hF.stay hbu
        replace hbc := hbc.trans (hbu.mono hbc.size)
        clear hbu hrd
        refine hK _ _ ?_
        clear hK K
        refine wpAny_take (i := 6) (v := .tuple #[.string ⟨(formL16 big x.toNat).toArray⟩, .agg #[.int .i64 0, .int .i64 0]]) rfl (by kernel_rfl) (by kernel_rfl) (by kernel_rfl) (fun _ _ _ h => h) (Or.inl ⟨by rfl, by intro w; go_simp⟩) ?_
        refine wpAny_take (i := 7) (v := .string ⟨(formL16 big x.toNat).toArray⟩) rfl (by kernel_rfl) (by kernel_rfl) (by kernel_rfl) (fun _ _ _ h => h) (Or.inl ⟨by rfl, by intro w; go_simp⟩) ?_
        refine wpAny_take (i := 8) (v := .agg #[.int .i64 0, .int .i64 0]) rfl (by kernel_rfl) (by kernel_rfl) (by kernel_rfl) (fun _ _ _ h => h) (Or.inl ⟨by rfl, by intro w; go_simp⟩) ?_
        refine wpAny_take (i := 10) (v := .string ⟨(formL16 big x.toNat).toArray⟩) rfl (by kernel_rfl) (by kernel_rfl) (by kernel_rfl) (fun _ _ _ h => h) (Or.inl ⟨by rfl, by intro w; go_simp⟩) ?_
        have z0 := hF.cell 0
        have z1 := hF.cell 1
        have f0 := hF.frozen 0
        have f1 := hF.frozen 1
        refine wpAny_ready (rs := [11]) (by kernel_rfl) (by simp) ?_
        refine AllReady.cons rfl (fun K hK => ?_) AllReady.nil
        go_simp
        refine hK _ _ ?_
        clear hK K
        refine wpAny_done (by kernel_rfl) ?_ _
        have bF := (hbc.setCell (p := ⟨w0.heap.size, 0, none⟩) hgg (.int .i64 0)).setCell (p := ⟨w0.heap.size, 1, none⟩) hgg (.int .i64 0)
        obtain ⟨wz, hwz⟩ : ∃ wz, wz = (World.setCell (World.setCell wb20 ⟨w0.heap.size, 0, none⟩ (.int .i64 0)) ⟨w0.heap.size, 1, none⟩ (.int .i64 0)) := ⟨_, rfl⟩
        rw [← hwz] at bF ⊢
        clear hwz z0 z1 f0 f1
        go_wp2
        exact bodyPost_ret (v := .tuple #[.string ⟨(formL16 big x.toNat).toArray⟩, .bool true]) (by simp [results, Tryd.results29, go_sem]) rfl ⟨by rw [He.out]; rfl, hB.out.trans (bF.mono hB.out.size)⟩

theorem rput_any (kind : Int) (A : Option Addr) (n c : Nat) (codes : List Int) (e x : Int) (w : World) (h : Reads w w.heap.size 1 A n (codes.map iv)) (hC : CkE kind codes e) :
    Calls Tryd.prog 29 #[.agg #[.int .i64 kind, .slice A n c], .int .i64 x] w fun r w' => r = .returned (formV (puR e (cdOf kind codes) x)) ∧ Below w.heap.size w w' := by
  unfold puR
  by_cases he : e = 0
  · subst he
    rw [if_pos rfl]
    cases hx : scalB x with
    | false => rw [formK_no hC hx]; exact rput_none kind A n c codes 0 x w h hC (Or.inr hx)
    | true =>
      rcases id hC with ⟨hk | hk | hk, _⟩ | ⟨hk, _⟩ | ⟨_, h0⟩
      · subst hk; exact rput_u8 A n c codes x w h hC hx
      · exact rput_u16 kind true A n c codes x w h (Or.inl ⟨hk, rfl⟩) hx
      · exact rput_u16 kind false A n c codes x w h (Or.inr ⟨hk, rfl⟩) hx
      · subst hk; exact rput_one A n c codes x w h hC hx
      · exact absurd h0 (by decide)
  · rw [if_neg he]; exact rput_none kind A n c codes e x w h hC (Or.inl he)
end Go.Proofs.YtbcbmmgfdobdiaaDoor
