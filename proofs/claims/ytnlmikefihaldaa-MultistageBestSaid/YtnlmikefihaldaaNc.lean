/- The reference's builder: put. -/
import Derived.Test.YtnlmikefihaldaaNb
import Derived.Test.YtnlmikefihaldaaTg
namespace Go.Proofs.Ytnlmikefihaldaa
open Go.RowKit

/-- what put leaves -/
def PutE (F : RF) (l : List (Int × Int × Int)) (ws : List Int) (st : PS) (evs : List (Int × Int × Int)) (k : Nat) (nums : List Int) (w : World) (e : Ending) (w' : World) : Prop :=
  (∃ i : Nat, i < cnt ws st.ss k ∧ blk (stg st.ss (k + 1)) (nb ws k) i = nums ∧ e = .returned (.int .i64 (i : Int)) ∧ RMem F l ws st evs w' ∧ RFrm F w w') ∨
  ((∀ i, i < cnt ws st.ss k → blk (stg st.ss (k + 1)) (nb ws k) i ≠ nums) ∧ e = .returned (.int .i64 ((cnt ws st.ss k : Nat) : Int)) ∧ RMem F l ws (putNew st k nums ((cnt ws st.ss k : Nat) : Int)) evs w' ∧ RFrm F w w')

set_option maxRecDepth 100000 in
set_option maxHeartbeats 4000000 in
theorem put_any (F : RF) (hF : F.ok) (l : List (Int × Int × Int)) (ws : List Int) (hw : okW ws) (st : PS) (evs : List (Int × Int × Int)) (k : Nat) (nums : List Int) (A : Option Addr) (c : Nat) (w : World) (hB : RMem F l ws st evs w) (hm : ws.length = F.m) (hk : k < F.m) (hss : st.ss.length = F.m + 1)
    (hlen : (stg st.ss (k + 1)).length = cnt ws st.ss k * nb ws k) (hc : cnt ws st.ss k ≤ 1114112) (hn : nums.length = nb ws k) (hr : Reads w w.heap.size 1 A (nb ws k) (nums.map iv)) :
    Calls Try.prog 55 #[ptr F.bb, .int .i64 ((k : Int) + 1), .slice A (nb ws k) c] w fun e w' => PutE F l ws st evs k nums w e w' := by
  obtain ⟨M, hM⟩ : ∃ M, M = nb ws k := ⟨_, rfl⟩
  obtain ⟨C, hC⟩ : ∃ C, C = cnt ws st.ss k := ⟨_, rfl⟩
  have hM1 : 0 < M := by rw [hM]; exact nb_pos _ _
  have hwd := wd_bd hw (k := k) (by omega)
  have hM2 : M ≤ 4096 := by rw [hM]; exact Nat.le_trans (Nat.pow_le_pow_right (n := 2) (by decide) hwd.2) (by decide)
  have hm3 : F.m ≤ 3 := by have := hw.2.1; omega
  obtain ⟨A8, c8, hrow, hc8, ho8⟩ := hB.row (k := k + 1) (by omega)
  obtain ⟨L8, hL8⟩ : ∃ L8, L8 = (stg st.ss (k + 1)).length := ⟨_, rfl⟩
  have hLC : L8 = C * M := by rw [hL8, hlen, ← hC, ← hM]
  have hL8b : L8 ≤ 1114112 * 4096 := by rw [hLC]; exact Nat.mul_le_mul (by omega) hM2
  obtain ⟨ve, x1, x2⟩ := hB.xb
  have g2 := x1.cell 2
  rw [← hL8] at hrow hc8 ho8
  rw [← hM] at hn hr ⊢
  rw [← hC] at hc
  have HF := Lib.hid hF
  have HB := Lib.hid hB
  have HM := Lib.hid hM
  have HC := Lib.hid hC
  have HL8 := Lib.hid hL8
  have HLC := Lib.hid hLC
  have HR := Lib.hid hr
  have Hn := Lib.hid hn
  have Hss := Lib.hid hss
  have hro := Reads.of_own ho8
  have HRo := Lib.hid hro
  have Ho8 := Lib.hid ho8
  clear hF hB hM hC hL8 hLC hr hn hss hlen hro x1 x2 hwd hw ho8 hm
  unfold ptr
  go_enter Try.func55, Try.ntmps55
  go_wp2
  go_loopw [8] (fun s8 wr => ∃ a p q : Nat, a ≤ C ∧ s8 = .int .i64 (p : Int) ∧ Hid (p = a * M) ∧ Hid (∀ j, j < a → blk (stg st.ss (k + 1)) M j ≠ nums) ∧ wr = w.drewN q) (fun s8 _ => L8 - (intOf s8).toNat)
  case atStart => exact ⟨0, 0, 0, by omega, rfl, Lib.hid (by simp), Lib.hid (fun j h => absurd h (by omega)), rfl⟩
  case round =>
    obtain ⟨a, p, q, ha, rfl, Hp, Hne, rfl⟩ := hrel
    have hk10 : (0 : Int) ≤ (k : Int) + 1 := by omega
    have hkm : (k : Int) + 1 < (F.m : Int) + 1 := by omega
    by_cases hlt : a < C
    · have hpl : p + M ≤ L8 := by rw [Hp.out, HLC.out, ← Nat.succ_mul]; exact Nat.mul_le_mul_right M hlt
      have hplt : (p : Int) < (L8 : Int) := by omega
      obtain ⟨ad, rfl⟩ : ∃ ad, A8 = some ad := by obtain ⟨ad, _, e, _⟩ := HRo.out.at_ (k := 0) (by omega); exact ⟨ad, e⟩
      have hA := HRo.out.cut2 (i := p) (m := M) (by omega)
      rw [Hp.out, blk_iv, ← Hp.out] at hA
      have HA := Lib.hid hA
      clear hA
      have h5 : (p : Int) + (M : Int) ≤ (c8 : Int) := by omega
      have h7 : (p : Int) ≤ (p : Int) + (M : Int) := by omega
      have h9 : ¬ c8 = p := by omega
      go_wp2_with fail
      refine (sameT_any (some (ad.add p)) A M (c8 - p) M c (blk (stg st.ss (k + 1)) M a) nums (w.drewN q) (HA.out.drewN q) (HR.out.drewN q) (by omega) (by omega)).mono ?_
      rintro e w2 ⟨⟨r, rfl, hrr⟩, t, rfl⟩
      have Hrr := Lib.hid hrr
      clear hrr
      cases r with
      | true =>
        have HE := Lib.hid (show PutE F l ws st evs k nums w (.returned (.int .i64 (a : Int))) (w.drewN (q + t)) from .inl ⟨a, by rw [← HC.out]; exact hlt, by rw [← HM.out]; exact Hrr.out.1 rfl, rfl, HB.out.stay HF.out (below_drewN (Below.refl _ _) _), RFrm.out HB.out.gs HB.out.bb (grown_of_below (below_drewN (Below.refl _ _) _) none) (by simp)⟩)
        have hdv : (p : Int) / (M : Int) = (a : Int) := by rw [Hp.out, Int.natCast_mul]; exact Int.mul_ediv_cancel _ (by omega)
        have hdv2 : (p : Int).tdiv (M : Int) = (a : Int) := by rw [Int.tdiv_eq_ediv_of_nonneg (by omega)]; exact hdv
        have hwa : IntKind.i64.wrap (a : Int) = (a : Int) := IntWalk.i64_in _ (by omega)
        have hMz : ((M : Int) == 0) = false := by simp; omega
        have hMn : ¬ (M : Int) = 0 := by omega
        clear Hrr
        go_wp2
        go_ret
        exact HE.out
      | false =>
        have Hne2 : Hid (∀ j, j < a + 1 → blk (stg st.ss (k + 1)) M j ≠ nums) := by
          intro j hj
          rcases Nat.lt_or_eq_of_le (Nat.le_of_lt_succ hj) with h1 | h1
          · exact Hne.out j h1
          · subst h1; exact fun e => by have := Hrr.out.2 e; cases this
        clear Hrr
        go_wp2
        go_roundw
        case rel => exact ⟨a + 1, p + M, _, by omega, by go_num, Lib.hid (by rw [Hp.out, Nat.succ_mul]), Hne2, rfl⟩
        case measure => simp [intOf]; omega
    · have haC : a = C := by omega
      subst haC
      have hpL : p = L8 := by rw [Hp.out, HLC.out]
      subst hpL
      have hplt : ¬ (p : Int) < (p : Int) := by omega
      have hfz := HB.out.frozen (k + 1)
      have hgs := HB.out.gs
      have hbb := HB.out.bb
      have hne := HF.out.ne
      have hHg := HF.out.hg
      have hHb := HF.out.hb
      have hH := HB.out.sz
      have HK := Lib.hid (show ∀ u, w.grownBy u (Value.slice A8 p c8).ownBlock → u.cell? ⟨F.bb, 2, none⟩ = some (.slice (some ⟨F.gs, 0, none⟩) (F.m + 1) (F.m + 1)) ∧ (∃ y, u.cell? ⟨F.gs, k + 1, none⟩ = some y) ∧ u.frozen? ⟨F.gs, k + 1, none⟩ = false from fun u hu => by
        have e1 : u.heap[F.gs]? = w.heap[F.gs]? := hu.block _ hgs (fun e => by have := (Ho8.out.lt _ e.symm).1; omega)
        have e2 : u.heap[F.bb]? = w.heap[F.bb]? := hu.block _ hbb (fun e => by have := (Ho8.out.lt _ e.symm).1; omega)
        exact ⟨(World.cell?_of_block e2).trans g2, ⟨_, (World.cell?_of_block e1).trans hrow⟩, (World.frozen?_of_block e1).trans hfz⟩)
      have HNEW := Lib.hid (show ∀ (u : World) (v' : Value), w.grownBy u (Value.slice A8 p c8).ownBlock → u.ownsRow F.H0 3 1 v' (p + M) ((stg st.ss (k + 1)).map iv ++ nums.map iv) → (v'.ownBlock = (Value.slice A8 p c8).ownBlock ∨ v'.ownBlock = some w.heap.size) →
          PutE F l ws st evs k nums w (.returned (.int .i64 (a : Int))) (u.setCell ⟨F.gs, k + 1, none⟩ v') from fun u v' q1 q2 q3 => by
        have hsl : k + 1 < st.ss.length := by rw [Hss.out]; omega
        obtain ⟨r1, r2⟩ := rmem_row (st' := putNew st k nums ((cnt ws st.ss k : Nat) : Int)) HF.out HB.out (t := k + 1) (nums := nums) (by omega) (stg_set_same hsl _) (fun j hj => stg_set_other hj _) rfl hrow q1 (by rw [Hn.out, ← HL8.out]; exact q2) (by
          rcases q3 with h | h
          · exact .inl h
          · exact .inr fun b e => by rw [h] at e; injection e with e; omega)
        have hall : ∀ i, i < cnt ws st.ss k → blk (stg st.ss (k + 1)) (nb ws k) i ≠ nums := fun i hi => by rw [← HM.out]; exact Hne.out i (by rw [HC.out]; exact hi)
        exact .inr ⟨hall, by rw [HC.out], r1, r2⟩)
      have HSZ := Lib.hid (show ∀ (u : World) (v' : Value), w.grownBy u (Value.slice A8 p c8).ownBlock → (u.setCell ⟨F.gs, k + 1, none⟩ v').cell? ⟨F.bb, 2, none⟩ = some (.slice (some ⟨F.gs, 0, none⟩) (F.m + 1) (F.m + 1)) ∧ (u.setCell ⟨F.gs, k + 1, none⟩ v').cell? ⟨F.gs, k + 1, none⟩ = some v' from fun u v' hu => by
        have e1 : u.heap[F.gs]? = w.heap[F.gs]? := hu.block _ hgs (fun e => by have := (Ho8.out.lt _ e.symm).1; omega)
        have e2 : u.heap[F.bb]? = w.heap[F.bb]? := hu.block _ hbb (fun e => by have := (Ho8.out.lt _ e.symm).1; omega)
        obtain ⟨V, b1, b2, _, _⟩ := HB.out.cs
        have b3 := (b1.blk e1).set_ (k + 1) v'
        refine ⟨(World.cell?_of_block (Below.heap_setCell u _ _ F.bb hne)).trans ((World.cell?_of_block e2).trans g2), ?_⟩
        rw [b3.cell, Array.getElem?_setIfInBounds_self_of_lt (by omega)])
      have Hone := Lib.hid (iv_one nums)
      have Ho := Lib.hid (show ((w.drewN q).drew).ownsRow F.H0 3 1 (.slice A8 p c8) p ((stg st.ss (k + 1)).map iv) from Ho8.out)
      have HRd := Lib.hid (show Reads ((w.drewN q).drew) w.heap.size 1 A M (nums.map iv) from HR.out)
      have hH8 : F.H0 ≤ ((w.drewN q).drew).heap.size := by simpa using hH
      obtain ⟨i0, hi, hz0, hz1', hz2'⟩ := info_parts Try.infoT3
      have hpm : p + M ≤ 1000000000000 := by omega
      have hdv : ((p : Int) + (M : Int)) / (M : Int) = (a : Int) + 1 := by
        have e : (p : Int) + (M : Int) = ((a : Int) + 1) * (M : Int) := by rw [Hp.out, Int.natCast_mul, Int.add_mul, Int.one_mul]
        rw [e]; exact Int.mul_ediv_cancel _ (by omega)
      have hdv2 : ((p : Int) + (M : Int)).tdiv (M : Int) = (a : Int) + 1 := by rw [Int.tdiv_eq_ediv_of_nonneg (by omega)]; exact hdv
      have hMz : ((M : Int) == 0) = false := by simp; omega
      have hMn : ¬ (M : Int) = 0 := by omega
      have hasub : (a : Int) + 1 - 1 = (a : Int) := by omega
      clear hHg hHb hH hplt hlt
      have hplt : ¬ (p : Int) < (p : Int) := by omega
      go_wp2_with fail
      go_region_law (refine step_append_own_at rfl (.tmp 52) (.tmp 53) 23 rfl Try.underlying23 hi hz0 hz1' hz2' rfl (by omega) (.slice A8 p c8) p _ (by simp [Act.eval]) Ho.out M c hM1 (nums.map iv) (by simp [Act.eval]) HRd.out Hone.out (by omega) hH8 ?_; intro v8 w8 ho9 hg8 hat8; obtain ⟨A10, c10, rfl, _, _⟩ := val_of_own ho9; have hg9 : w.grownBy w8 (Value.slice A8 p c8).ownBlock := ⟨hg8.os, hg8.tape, hg8.output, hg8.size, hg8.block⟩; obtain ⟨k1, ⟨ky, k2⟩, k3⟩ := HK.out w8 hg9)
      all_goals (have HE := Lib.hid (HNEW.out w8 _ hg9 ho9 hat8); clear ho9 hg8 hg9 hat8)
      all_goals go_wp2
      all_goals go_ret
      all_goals exact HE.out
end Go.Proofs.Ytnlmikefihaldaa
