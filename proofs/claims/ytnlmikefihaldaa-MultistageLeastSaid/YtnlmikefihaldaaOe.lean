/- The reference's join. -/
import Derived.Test.YtnlmikefihaldaaOd
namespace Go.Proofs.Ytnlmikefihaldaa
open Go.RowKit

theorem rpv_len (l : List (Int × Int)) : (l.flatMap rpv).length = l.length * 2 := by
  induction l with
  | nil => rfl
  | cons x l ih => rw [List.flatMap_cons, List.length_append, ih]; simp [rpv]; omega
theorem rpv_at {l : List (Int × Int)} {k : Nat} {x : Int × Int} (h : l[k]? = some x) : (l.flatMap rpv)[k * 2]? = some (.int .i64 x.1) ∧ (l.flatMap rpv)[k * 2 + 1]? = some (.int .i64 x.2) := by
  induction l generalizing k with
  | nil => simp at h
  | cons y l ih =>
    rw [List.flatMap_cons]
    cases k with
    | zero => simp at h; subst h; simp [rpv]
    | succ k =>
      obtain ⟨h1, h2⟩ := ih (k := k) (by simpa using h)
      rw [show (k + 1) * 2 = k * 2 + 2 by omega]
      refine ⟨?_, ?_⟩
      · rw [show k * 2 + 2 = (rpv y).length + k * 2 by simp [rpv]; omega, List.getElem?_append_right (by omega), Nat.add_sub_cancel_left]; exact h1
      · rw [show k * 2 + 2 + 1 = (rpv y).length + (k * 2 + 1) by simp [rpv]; omega, List.getElem?_append_right (by omega), Nat.add_sub_cancel_left]; exact h2
theorem rpv_snoc (l : List (Int × Int)) (x : Int × Int) : (l ++ [x]).flatMap rpv = l.flatMap rpv ++ [.int .i64 x.1, .int .i64 x.2] := by simp [rpv]
theorem Reads.pair {w : World} {B n : Nat} {A : Option Addr} {l : List (Int × Int)} (h : Reads w B 2 A n (l.flatMap rpv)) {k : Nat} (hk : k < n) :
    ∃ ad N v, A = some ad ∧ ad.block < B ∧ l[k]? = some (N, v) ∧ w.cell? (ad.add (k * 2)) = some (.int .i64 N) ∧ w.cell? ⟨(ad.add (k * 2)).block, (ad.add (k * 2)).off + 1, none⟩ = some (.int .i64 v) := by
  have hl : l.length = n := by have := h.1; rw [rpv_len] at this; omega
  obtain ⟨ad, e, hb, hc⟩ := h.2 (by omega)
  have hkl : k < l.length := by omega
  have hx := List.getElem?_eq_getElem hkl
  obtain ⟨h1, h2⟩ := rpv_at hx
  have g2 := hc _ _ h2
  have ha : ∀ t, 0 < t → ad.add (k * 2 + t) = ⟨(ad.add (k * 2)).block, (ad.add (k * 2)).off + t, none⟩ := fun t ht => by
    unfold Addr.add
    rw [if_neg (by omega)]
    by_cases h0 : k * 2 = 0 <;> simp [h0, Nat.add_assoc]
  rw [ha 1 (by omega)] at g2
  exact ⟨ad, l[k].1, l[k].2, e, hb, hx, hc _ _ h1, g2⟩
theorem Try.infoT81 : (Try.prog.info? 81).map (fun i => (i.zero, i.size, i.bytes)) = some (some (.agg #[.int .i64 0, .int .i64 0]), 2, 16) := by kernel_rfl
/-- a row of runs of the call's own -/
def RunR (B : Nat) (v : Value) (r : List (Int × Int)) (w : World) : Prop := w.ownsRow B 81 2 v r.length (r.flatMap rpv)
/-- the row v, and what may have changed -/
structure JFrm (v0 v : Value) (w0 w : World) : Prop where
  grown : w0.grownBy w v0.ownBlock
  at_ : v.ownBlock = v0.ownBlock ∨ ∀ g, v.ownBlock = some g → w0.heap.size ≤ g
theorem JFrm.refl (v : Value) (w : World) : JFrm v v w w := ⟨⟨rfl, rfl, rfl, Nat.le_refl _, fun _ _ _ => rfl⟩, .inl rfl⟩
theorem JFrm.step {v0 v v' : Value} {w0 w w' : World} (h : JFrm v0 v w0 w) (hg : w.grownBy w' v.ownBlock) (ha : v'.ownBlock = v.ownBlock ∨ ∀ g, v'.ownBlock = some g → w.heap.size ≤ g) : JFrm v0 v' w0 w' := by
  refine ⟨⟨hg.os.trans h.grown.os, hg.tape.trans h.grown.tape, hg.output.trans h.grown.output, Nat.le_trans h.grown.size hg.size, fun k hk hne => ?_⟩, ?_⟩
  · refine (hg.block k (Nat.lt_of_lt_of_le hk h.grown.size) fun e => ?_).trans (h.grown.block k hk hne)
    rcases h.at_ with q | q
    · rw [q] at e; exact hne e
    · have := q k e.symm; omega
  · rcases ha with q | q
    · rw [q]; exact h.at_
    · exact .inr fun g e => Nat.le_trans h.grown.size (q g e)
theorem JFrm.cell {v0 v : Value} {w0 w : World} (h : JFrm v0 v w0 w) {p : Addr} (hp : p.block < w0.heap.size) (hne : v0.ownBlock ≠ some p.block) : w.cell? p = w0.cell? p := World.cell?_of_block (h.grown.block _ hp (fun e => hne e.symm))
theorem JFrm.below {v0 v : Value} {B : Nat} {w0 w : World} (h : JFrm v0 v w0 w) (hB : B ≤ w0.heap.size) (ho : ∀ g, v0.ownBlock = some g → B ≤ g) : Below B w0 w :=
  ⟨h.grown.os, h.grown.tape, h.grown.output, h.grown.size, fun b hb => h.grown.block b (by omega) (fun e => by have := ho b e.symm; omega)⟩

set_option maxRecDepth 100000 in
set_option maxHeartbeats 8000000 in
theorem join_any (B : Nat) (v : Value) (ra rb : List (Int × Int)) (A : Option Addr) (m c : Nat) (w : World) (ho : RunR B v ra w) (hr : Reads w w.heap.size 2 A m (rb.flatMap rpv)) (hne : ∀ ad, A = some ad → v.ownBlock ≠ some ad.block) (hB : B ≤ w.heap.size)
    (ha : RunsOK ra) (hb : ∀ y ∈ rb, 1 ≤ y.1) (hlen : (exL ra).length + (exL rb).length ≤ 10000000) :
    Calls Try.prog 57 #[v, .slice A m c] w fun e w' => ∃ v', e = .returned v' ∧ RunR B v' (joinL ra rb) w' ∧ Below B w w' := by
  have hm : rb.length = m := by have := hr.1; rw [rpv_len] at this; omega
  have hmb : m ≤ 10000000 := by rw [← hm]; have := exL_len hb; omega
  obtain ⟨A0, c0, rfl, _, _⟩ := val_of_ownS ho
  have Ho := Lib.hid ho
  have Hr := Lib.hid hr
  have Hne := Lib.hid hne
  have Ha := Lib.hid ha
  have Hb := Lib.hid hb
  have Hlen := Lib.hid hlen
  have Hm := Lib.hid hm
  have Hown := Lib.hid (show ∀ g, (Value.slice A0 ra.length c0).ownBlock = some g → B ≤ g from fun g e => (ho.lt g e).1)
  obtain ⟨v0, hv0⟩ : ∃ v0, v0 = Value.slice A0 ra.length c0 := ⟨_, rfl⟩
  rw [← hv0] at Ho Hne Hown ⊢
  clear ho hr hne ha hb hlen hm hv0
  go_enter Try.func57, Try.ntmps57
  go_wp2_with fail
  go_loopw [5, 6] (fun s5 s6 wx => ∃ i : Nat, i ≤ m ∧ s6 = .int .i64 (i : Int) ∧ Hid (RunR B s5 (joinL ra (rb.take i)) wx) ∧ Hid (JFrm v0 s5 w wx)) (fun _ s6 _ => m - (intOf s6).toNat)
  case atStart => exact ⟨0, by omega, rfl, Lib.hid (by simpa [joinL] using Ho.out), Lib.hid (JFrm.refl _ _)⟩
  case round =>
    obtain ⟨i, hi, rfl, HR, HJ⟩ := hrel
    obtain ⟨A5, c5, hv5, hc5, _⟩ := val_of_ownS HR.out
    subst hv5
    by_cases hlt : i < m
    · have hii : (i : Int) < (m : Int) := by omega
      obtain ⟨ad, N, V, rfl, hadb, hy, q0, q1⟩ := Hr.out.pair hlt
      have hN1 := Hb.out (N, V) (List.mem_of_getElem? hy)
      have hN2 := exL_len_mem (List.mem_of_getElem? hy)
      simp only at hN1 hN2
      have hnb := Hne.out ad rfl
      have hNb : N ≤ 10000000 := by have := Hlen.out; omega
      have e0 : wr.cell? (ad.add (i * 2)) = some (.int .i64 N) := (HJ.out.cell (by unfold Addr.add; split <;> exact hadb) (by unfold Addr.add; split <;> exact hnb)).trans q0
      have e1 : wr.cell? ⟨(ad.add (i * 2)).block, (ad.add (i * 2)).off + 1, none⟩ = some (.int .i64 V) := (HJ.out.cell (by unfold Addr.add; split <;> exact hadb) (by unfold Addr.add; split <;> exact hnb)).trans q1
      have hJn := joinL_take (a := ra) hy
      obtain ⟨hok, hex⟩ := joinL_ok (rb.take i) Ha.out (fun y hy => Hb.out y (List.mem_of_mem_take hy))
      have hexl : (exL (joinL ra (rb.take i))).length ≤ 10000000 := by rw [hex, List.length_append]; have := exL_take (r := rb) i; have := Hlen.out; omega
      have hBw : B ≤ wr.heap.size := Nat.le_trans hB HJ.out.grown.size
      obtain ⟨i0, hi0, hz0, hz1, hz2⟩ := info_parts Try.infoT81
      clear q0 q1 hy
      have hJlen := exL_len hok.pos
      rcases list_snoc (joinL ra (rb.take i)) with hl0 | ⟨l0, z, hl0⟩
      · rw [hl0] at HR hJn HJ
        rw [hl0]
        rw [pushR_nil] at hJn
        have HJn := Lib.hid hJn
        have HO := Lib.hid HR.out
        unfold RunR at HO
        have hz10 := hz1
        clear hok hex hexl hJlen hl0 hJn
        go_wp2_with fail
        go_quiet (fail)
        go_upto_region 8 with fail
        have HOq := Lib.hid (show World.ownsRow (wr.drewN nq) B 81 2 (.slice A5 0 c5) 0 [] from HO.out)
        have HJq := Lib.hid (show JFrm v0 (.slice A5 0 c5) w (wr.drewN nq) from ⟨grown_drewN HJ.out.grown nq, HJ.out.at_⟩)
        have e0q : (wr.drewN nq).cell? (ad.add (i * 2)) = some (.int .i64 N) := e0
        have e1q : (wr.drewN nq).cell? ⟨(ad.add (i * 2)).block, (ad.add (i * 2)).off + 1, none⟩ = some (.int .i64 V) := e1
        have hBq : B ≤ (wr.drewN nq).heap.size := hBw
        clear HO e0 e1 HJ hBw
        obtain ⟨W6, hW6⟩ : ∃ W6, W6 = wr.drewN nq := ⟨_, rfl⟩
        rw [← hW6] at HOq HJq e0q e1q hBq ⊢
        clear hW6
        go_wp2_with (at_builtin; go_loud (refine wpList_app3 rfl (.tmp 50) (.tmp 55) 77 rfl Try.underlying77 hi0 hz0 hz1 hz2 rfl (by omega) (by omega) W6 _ _ _ rfl HOq.out #[.int .i64 N, .int .i64 V] rfl rfl (by intro u hu; simp at hu; rcases hu with rfl | rfl <;> rfl) (by omega) hBq ?_); intro v6 w6 ho6 hb6 hg6 hat6)
        have HR6 := Lib.hid (show RunR B v6 (joinL ra (rb.take (i + 1))) w6 by rw [HJn.out]; simpa [RunR, rpv] using ho6)
        have HJ6 := Lib.hid (HJq.out.step hg6 (hat6.elim (fun h => .inl h) (fun h => .inr (fun g e => by have e2 := h.symm.trans e; injection e2 with e2; omega))))
        exact ⟨⟨i + 1, by omega, by go_num, HR6, HJ6⟩, by simp [intOf]; omega⟩
      · rw [hl0] at HR hJn hexl hJlen hok ⊢
        rw [pushR_snoc] at hJn
        obtain ⟨Nz, Vz⟩ := z
        have hz1' := hok.pos (Nz, Vz) (by simp)
        have hz2' := exL_len_mem (show (Nz, Vz) ∈ l0 ++ [(Nz, Vz)] by simp)
        simp only at hz1' hz2' hJn
        have hNzb : Nz ≤ 10000000 := by omega
        obtain ⟨g, c6, hv6, hgB, hgl⟩ := HR.out.form (by simp)
        injection hv6 with hv6 _ hv7
        subst hv6
        subst hv7
        have q0 : wr.cell? ⟨g, l0.length * 2, none⟩ = some (.int .i64 Nz) := by
          rw [World.ownsRow.cellAt HR.out _ (by simp), rpv_snoc, List.getElem?_append_right (by rw [rpv_len]; omega), rpv_len, Nat.sub_self]
          rfl
        have q1 : wr.cell? ⟨g, l0.length * 2 + 1, none⟩ = some (.int .i64 Vz) := by
          rw [World.ownsRow.cellAt HR.out _ (by simp; omega), rpv_snoc, List.getElem?_append_right (by rw [rpv_len]; omega), rpv_len, show l0.length * 2 + 1 - l0.length * 2 = 1 by omega]; rfl
        have q3 := World.ownsRow.frozenAt HR.out (l0.length * 2)
        have HO := Lib.hid HR.out
        obtain ⟨L5, hL5⟩ : ∃ L5, L5 = (l0 ++ [(Nz, Vz)]).length := ⟨_, rfl⟩
        have hL5' : L5 = l0.length + 1 := by rw [hL5]; simp
        have HL5 := Lib.hid hL5
        have HL5' := Lib.hid hL5'
        rw [show l0.length = L5 - 1 by omega] at q0 q1 q3
        have hLb : L5 ≤ 10000000 := by rw [hL5]; omega
        have hL1 : 1 ≤ L5 := by omega
        rw [← hL5] at HO ⊢
        have HJn := Lib.hid hJn
        have HOK := Lib.hid (And.intro hok hex)
        clear hok hex hexl hJlen hl0 hJn hL5 hL5' HR
        have hdec : decide (0 < L5) = true := decide_eq_true (by omega)
        have hL1i : (1 : Int) ≤ (L5 : Int) := by omega
        have hL5p : (0 : Int) < (L5 : Int) := by omega
        have hL5a : (0 : Int) ≤ (L5 : Int) - 1 := by omega
        have hL5c : (L5 : Int) - 1 < (L5 : Int) := by omega
        have hwr : IntKind.i64.wrap ((L5 : Int) - 1) = (L5 : Int) - 1 := IntWalk.i64_in _ (by omega)
        by_cases hvv : Vz = V
        · subst hvv
          go_wp2_with fail
          go_quiet (fail)
          go_upto_region 7 with fail
          have HOq := Lib.hid (show World.ownsRow (wr.drewN nq) B 81 2 (.slice (some ⟨g, 0, none⟩) L5 c5) L5 ((l0 ++ [(Nz, Vz)]).flatMap rpv) by have := HO.out; unfold RunR at this; rw [← HL5.out] at this; exact this)
          have HJq := Lib.hid (show JFrm v0 _ w (wr.drewN nq) from ⟨grown_drewN HJ.out.grown nq, HJ.out.at_⟩)
          have e0q : (wr.drewN nq).cell? (ad.add (i * 2)) = some (.int .i64 N) := e0
          have e2q : (wr.drewN nq).cell? ⟨g, (L5 - 1) * 2, none⟩ = some (.int .i64 Nz) := q0
          have e3q : (wr.drewN nq).frozen? ⟨g, (L5 - 1) * 2, none⟩ = false := q3
          clear HO e0 e1 HJ q0 q1 q3
          obtain ⟨W6, hW6⟩ : ∃ W6, W6 = wr.drewN nq := ⟨_, rfl⟩
          rw [← hW6] at HOq HJq e0q e2q e3q ⊢
          clear hW6
          have hws : IntKind.i64.wrap (Nz + N) = Nz + N := IntWalk.i64_in _ (by omega)
          go_region_law (fail)
          all_goals
            go_wp2_with fail
            have ho6 := (HOq.out.stored ((L5 - 1) * 2) (.int .i64 (Nz + N))).1
            have hg6 := (HOq.out.stored ((L5 - 1) * 2) (.int .i64 (Nz + N))).2
            have HR6 := Lib.hid (show RunR B (.slice (some ⟨g, 0, none⟩) L5 c5) (joinL ra (rb.take (i + 1))) (W6.setCell ⟨g, (L5 - 1) * 2, none⟩ (.int .i64 (Nz + N))).drew by
              rw [HJn.out]
              simp only [if_true]
              have e : ((l0 ++ [(Nz, Vz)]).flatMap rpv).set ((L5 - 1) * 2) (.int .i64 (Nz + N)) = (l0 ++ [(Nz + N, Vz)]).flatMap rpv := by
                rw [HL5'.out, Nat.add_sub_cancel, rpv_snoc, rpv_snoc, List.set_append_right _ _ (by rw [rpv_len]; exact Nat.le_refl _), rpv_len, Nat.sub_self]
                rfl
              rw [e] at ho6
              have e2 : (l0 ++ [(Nz + N, Vz)]).length = L5 := by rw [HL5'.out]; simp
              unfold RunR
              rw [e2]
              exact ho6)
            have HJ6 := Lib.hid (show JFrm v0 (.slice (some ⟨g, 0, none⟩) L5 c5) w (W6.setCell ⟨g, (L5 - 1) * 2, none⟩ (.int .i64 (Nz + N))).drew from by
              have h := HJq.out.step (v' := .slice (some ⟨g, 0, none⟩) L5 c5) hg6 (.inl rfl)
              exact ⟨grown_drewN h.grown 1, h.at_⟩)
            clear ho6 hg6
            exact ⟨⟨i + 1, by omega, by go_num, HR6, HJ6⟩, by simp [intOf]; omega⟩
        · have hvb : (Vz == V) = false := by simpa using hvv
          go_wp2_with fail
          go_quiet (fail)
          go_upto_region 8 with fail
          have HOq := Lib.hid (show World.ownsRow (wr.drewN nq) B 81 2 (.slice (some ⟨g, 0, none⟩) L5 c5) L5 ((l0 ++ [(Nz, Vz)]).flatMap rpv) by have := HO.out; unfold RunR at this; rw [← HL5.out] at this; exact this)
          have HJq := Lib.hid (show JFrm v0 _ w (wr.drewN nq) from ⟨grown_drewN HJ.out.grown nq, HJ.out.at_⟩)
          have e0q : (wr.drewN nq).cell? (ad.add (i * 2)) = some (.int .i64 N) := e0
          have e1q : (wr.drewN nq).cell? ⟨(ad.add (i * 2)).block, (ad.add (i * 2)).off + 1, none⟩ = some (.int .i64 V) := e1
          have hBq : B ≤ (wr.drewN nq).heap.size := hBw
          clear HO e0 e1 HJ hBw q0 q1 q3
          obtain ⟨W6, hW6⟩ : ∃ W6, W6 = wr.drewN nq := ⟨_, rfl⟩
          rw [← hW6] at HOq HJq e0q e1q hBq ⊢
          clear hW6
          go_wp2_with (at_builtin; go_loud (refine wpList_app3 rfl (.tmp 50) (.tmp 55) 77 rfl Try.underlying77 hi0 hz0 hz1 hz2 rfl (by omega) (by omega) W6 _ _ _ rfl HOq.out #[.int .i64 N, .int .i64 V] rfl rfl (by intro u hu; simp at hu; rcases hu with rfl | rfl <;> rfl) (by omega) hBq ?_); intro v6 w6 ho6 hb6 hg6 hat6)
          have HR6 := Lib.hid (show RunR B v6 (joinL ra (rb.take (i + 1))) w6 by
            rw [HJn.out, if_neg hvv]
            have := ho6
            rw [HL5.out] at this
            unfold RunR
            rw [rpv_snoc, List.length_append]
            exact this)
          have HJ6 := Lib.hid (HJq.out.step hg6 (hat6.elim (fun h => .inl h) (fun h => .inr (fun g e => by have e2 := h.symm.trans e; injection e2 with e2; omega))))
          exact ⟨⟨i + 1, by omega, by go_num, HR6, HJ6⟩, by simp [intOf]; omega⟩
    · have hie : m = i := by omega
      subst hie
      have hii : ¬ (m : Int) < (m : Int) := by omega
      have HE := Lib.hid (show RunR B (.slice A5 (joinL ra (rb.take m)).length c5) (joinL ra rb) wr by
        have := HR.out
        have e : rb.take m = rb := by rw [← Hm.out, List.take_length]
        rw [e] at this ⊢
        exact this)
      have HBe := Lib.hid (HJ.out.below hB Hown.out)
      go_wp2_with fail
      go_ret
      exact ⟨_, rfl, HE.out, HBe.out⟩
end Go.Proofs.Ytnlmikefihaldaa
