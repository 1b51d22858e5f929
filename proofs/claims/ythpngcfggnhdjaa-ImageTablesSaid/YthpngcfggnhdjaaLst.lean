import Derived.Test.YthpngcfggnhdjaaRdr
namespace Go.Proofs.Ythpngcfggnhdjaa
open Go.RowKit Go.Proofs.Img

theorem rnumber_ok (l : List UInt8) (at_ b : Nat) (x : Int) (k : Nat) (w : World) (hr : Rdr w b l at_) (hat : at_ ≤ l.length) (hl : l.length ≤ 1000000) (h : readN (l.drop at_) = .ok (x, k)) :
    Calls Try.prog 55 #[.pointer (some ⟨b, 0, none⟩)] w fun e w' => e = .returned (.int .i64 x) ∧ Rdr w' b l (at_ + k) ∧ w.grownBy w' (some b) :=
  (rnumber_any l at_ b w hr hat hl).mono fun e w' ⟨hg, hm⟩ => by rw [h] at hm; exact ⟨hm.1, hm.2, hg⟩
theorem rnumber_err (l : List UInt8) (at_ b : Nat) (c : Int) (w : World) (hr : Rdr w b l at_) (hat : at_ ≤ l.length) (hl : l.length ≤ 1000000) (h : readN (l.drop at_) = .error c) :
    Calls Try.prog 55 #[.pointer (some ⟨b, 0, none⟩)] w fun e w' => e = .panicked (stopV c) ∧ (∃ at', Rdr w' b l at') ∧ w.grownBy w' (some b) :=
  (rnumber_any l at_ b w hr hat hl).mono fun e w' ⟨hg, hm⟩ => by rw [h] at hm; exact ⟨hm.1, hm.2, hg⟩

def ListPost (l : List UInt8) (at_ b : Nat) (w : World) (e : Ending) (w' : World) : Prop :=
  w.grownBy w' (some b) ∧
  match readL (l.drop at_) with
  | .ok (xs, k) => ∃ v, e = .returned v ∧ w'.ownsRow w.heap.size 3 1 v xs.length (xs.map iv) ∧ Rdr w' b l (at_ + k)
  | .error c => e = .panicked (stopV c) ∧ ∃ at', Rdr w' b l at'

def pre (xs : List Int) (m : Nat) : Except Int (List Int × Nat) → Except Int (List Int × Nat)
  | .error e => .error e
  | .ok (ys, k) => .ok (xs ++ ys, m + k)

theorem pre_ok (xs : List Int) (m a n : Nat) (l : List UInt8) (x : Int) (k : Nat) (h : readN (l.drop a) = .ok (x, k)) :
    pre xs m (rdMany (n + 1) (l.drop a)) = pre (xs ++ [x]) (m + k) (rdMany n (l.drop (a + k))) := by
  rw [rdMany, h]
  simp only [List.drop_drop]
  cases rdMany n (l.drop (a + k)) with
  | error e => rfl
  | ok r => obtain ⟨ys, q⟩ := r; simp [pre, Nat.add_assoc]
theorem pre_err (xs : List Int) (m a n : Nat) (l : List UInt8) (c : Int) (h : readN (l.drop a) = .error c) :
    pre xs m (rdMany (n + 1) (l.drop a)) = .error c := by
  rw [rdMany, h]; rfl

theorem listpost_err {l : List UInt8} {at_ b : Nat} {w w' : World} {c : Int} (h : readL (l.drop at_) = .error c) (hg : w.grownBy w' (some b)) (hR : ∃ at', Rdr w' b l at') :
    ListPost l at_ b w (.panicked (stopV c)) w' := by
  refine ⟨hg, ?_⟩
  rw [h]
  exact ⟨rfl, hR⟩

theorem listpost_ok {l : List UInt8} {at_ b : Nat} {w w' : World} {xs : List Int} {k : Nat} {v : Value} (h : readL (l.drop at_) = .ok (xs, k)) (hg : w.grownBy w' (some b)) (ho : w'.ownsRow w.heap.size 3 1 v xs.length (xs.map iv)) (hR : Rdr w' b l (at_ + k)) :
    ListPost l at_ b w (.returned v) w' := by
  refine ⟨hg, ?_⟩
  rw [h]
  exact ⟨v, rfl, ho, hR⟩
theorem grown_then {a b c : World} {row : Option Nat} (h : a.grownBy b row) (k : Below a.heap.size b c) : a.grownBy c row :=
  ⟨k.os.trans h.os, k.tape.trans h.tape, k.output.trans h.output, Nat.le_trans h.size k.size, fun i hi hne => (k.block i hi).trans (h.block i hi hne)⟩

theorem own_kept {base g : Nat} {w w' : World} {e : TypeId} {v : Value} {n : Nat} {xs : List Value} (h : w.ownsRow base e 1 v n xs) (hg : w.grownBy w' (some g)) (hb : g < base) : w'.ownsRow base e 1 v n xs := by
  refine h.kept hg ?_
  right
  intro e
  have := (h.lt g e).1
  omega

theorem Try.info3 : (Try.prog.info? 3).map (fun i => (i.zero, i.size, i.bytes)) = some (some (.int .i64 0), 1, 8) := by kernel_rfl

def LstRel (l : List UInt8) (at1 n b : Nat) (w : World) (v i : Value) (wr : World) : Prop :=
  ∃ (j a m : Nat) (xs : List Int), j ≤ n ∧ i = .int .i64 (j : Int) ∧ xs.length = j ∧ a ≤ l.length ∧ a = at1 + m ∧ rdMany n (l.drop at1) = pre xs m (rdMany (n - j) (l.drop a)) ∧
    wr.ownsRow w.heap.size 3 1 v j (xs.map iv) ∧ Rdr wr b l a ∧ w.grownBy wr (some b)

set_option maxRecDepth 100000 in
set_option maxHeartbeats 1000000 in
theorem list_any (l : List UInt8) (at_ b : Nat) (w : World) (hr : Rdr w b l at_) (hat : at_ ≤ l.length) (hl : l.length ≤ 1000000) :
    Calls Try.prog 40 #[.pointer (some ⟨b, 0, none⟩)] w (ListPost l at_ b w) := by
  obtain ⟨i0, hi, hz0, hz1, hz2⟩ := info_parts Try.info3
  have hbw : b < w.heap.size := Blk.lt hr
  cases hN : readN (l.drop at_) with
  | error c =>
    have Hc := Lib.hid (rnumber_err l at_ b c w hr hat hl hN)
    have HL := Lib.hid (show readL (l.drop at_) = .error c by rw [readL, hN])
    clear hr hN
    go_enter Try.func40, Try.ntmps40
    go_wp2_with fail
    refine Hc.out.mono ?_
    rintro e w1 ⟨rfl, hR, hg⟩
    exact ⟨rfl, listpost_err HL.out hg hR⟩
  | ok r =>
    obtain ⟨n, k⟩ := r
    have Hc := Lib.hid (rnumber_ok l at_ b n k w hr hat hl hN)
    obtain ⟨hnI, _, hk1, hk2⟩ := readN_min hN
    simp only [List.length_drop] at hk1
    have HL : Hid (readL (l.drop at_) = if n < 0 ∨ n > (l.length : Int) - (at_ + k : Nat) then .error 1 else match rdMany n.toNat (l.drop (at_ + k)) with | .error e => .error e | .ok (xs, m) => .ok (xs, k + m)) := by
      show readL (l.drop at_) = _
      rw [readL, hN]
      simp only [List.length_drop, List.drop_drop]
      have : (n < 0 ∨ n > ((l.length - at_ : Nat) : Int) - (k : Int)) ↔ (n < 0 ∨ n > (l.length : Int) - ((at_ + k : Nat) : Int)) := by omega
      simp only [this]
      rfl
    obtain ⟨p, hp⟩ : ∃ p, p = at_ + k := ⟨_, rfl⟩
    rw [← hp] at HL Hc
    have hpl : p ≤ l.length := by omega
    have Hp := Lib.hid hp
    have HnI := Lib.hid hnI
    clear hr hN hp hnI hk1
    by_cases hneg : n < 0
    · have HE := Lib.hid (HL.out.trans (if_pos (.inl hneg)))
      go_enter Try.func40, Try.ntmps40
      go_wp2_with fail
      refine Hc.out.mono ?_
      rintro e w1 ⟨rfl, hR, hg⟩
      go_wp2
      go_quiet (fail)
      go_wp2
      exact ⟨rfl, listpost_err HE.out (grown_drewN hg _) ⟨_, Blk.drewN hR _⟩⟩
    · have hnn : decide (n < 0) = false := by simp; omega
      by_cases hbig : n > (l.length : Int) - (p : Int)
      · have HE := Lib.hid (HL.out.trans (if_pos (.inr hbig)))
        have Hneg := Lib.hid hneg
        clear hneg
        go_enter Try.func40, Try.ntmps40
        go_wp2_with fail
        refine Hc.out.mono ?_
        rintro e w1 ⟨rfl, hR, hg⟩
        have h0 : w1.cell? ⟨b, 0, none⟩ = some (.string ⟨l.toArray⟩) := Blk.cell hR 0
        have h1 : w1.cell? ⟨b, 1, none⟩ = some (.int .i64 (p : Int)) := Blk.cell hR 1
        go_wp2
        go_quiet (fail)
        go_wp2
        exact ⟨rfl, listpost_err HE.out (grown_drewN hg _) ⟨_, Blk.drewN hR _⟩⟩
      · have HE := Lib.hid (HL.out.trans (if_neg (by omega)))
        obtain ⟨m, rfl⟩ := Int.eq_ofNat_of_zero_le (show 0 ≤ n by omega)
        rw [Int.toNat_natCast] at HE
        have hm1 : m ≤ 1000000 := by omega
        have hdec : decide ((l.length : Int) - (p : Int) < (m : Int)) = false := by simp; omega
        have Hbig := Lib.hid hbig
        clear hneg hbig
        go_enter Try.func40, Try.ntmps40
        go_wp2_with fail
        refine Hc.out.mono ?_
        rintro e w1 ⟨rfl, hR, hg⟩
        have h0 : w1.cell? ⟨b, 0, none⟩ = some (.string ⟨l.toArray⟩) := Blk.cell hR 0
        have h1 : w1.cell? ⟨b, 1, none⟩ = some (.int .i64 (p : Int)) := Blk.cell hR 1
        go_wp2
        go_quiet (fail)
        go_wp2
        clear h0 h1
        go_loopw [4, 26] (fun v i wr => LstRel l p m b w v i wr) (fun _ i _ => m - (intOf i).toNat)
        case atStart => exact ⟨0, p, 0, [], Nat.zero_le _, rfl, rfl, hpl, rfl, by simp only [Nat.sub_zero]; cases rdMany m (l.drop p) <;> simp [pre], World.ownsRow_nil _ _ _ _, Blk.drewN hR _, grown_drewN hg _⟩
        case round =>
          obtain ⟨j, a, q, xs, hj, rfl, hxs, hal, ha, hrd, ho, hRa, hga⟩ := hrel
          have Hxs := Lib.hid hxs
          have Ha := Lib.hid ha
          have Hrd := Lib.hid hrd
          have HRa := Lib.hid hRa
          clear hxs ha hrd hRa
          by_cases hlt : j < m
          · obtain ⟨f, hf⟩ : ∃ f, m - j = f + 1 := ⟨m - j - 1, by omega⟩
            have Hf := Lib.hid hf
            clear hf
            cases hN : readN (l.drop a) with
            | error c =>
              have Hc2 := Lib.hid (rnumber_err l a b c wr HRa.out hal hl hN)
              have HE2 := Lib.hid (show readL (l.drop at_) = .error c by rw [HE.out, Hrd.out, Hf.out, pre_err _ _ _ _ _ _ hN])
              clear hN
              go_wp2_with fail
              refine Hc2.out.mono ?_
              rintro e w2 ⟨rfl, hR2, hg2⟩
              exact ⟨rfl, listpost_err HE2.out (grown_trans hga hg2) hR2⟩
            | ok r =>
              obtain ⟨x, k2⟩ := r
              have Hc2 := Lib.hid (rnumber_ok l a b x k2 wr HRa.out hal hl hN)
              have Hrd2 := Lib.hid (Hrd.out.trans (by rw [Hf.out, pre_ok _ _ _ _ _ _ _ hN]))
              have hk3 := (readN_min hN).2.2.1
              simp only [List.length_drop] at hk3
              clear hN
              go_wp2_with fail
              refine Hc2.out.mono ?_
              rintro e w2 ⟨rfl, hR2, hg2⟩
              have ho2 := own_kept ho hg2 hbw
              have hsz2 : w.heap.size ≤ w2.heap.size := by have := hga.size; have := hg2.size; omega
              go_wp2_with (at_builtin; go_must (refine wpList_app1 rfl (.tmp 28) (.tmp 31) 26 rfl Try.underlying26 hi hz0 hz1 hz2 rfl (by omega) w2 _ _ _ rfl ho2 _ rfl rfl (by omega) hsz2 ?_); intro v3 w3 ho3 hB3 hg3)
              go_roundw
              case rel => exact ⟨j + 1, a + k2, q + k2, xs ++ [x], by omega, by go_num, by simp [Hxs.out], by omega, by have := Ha.out; omega, by rw [Hrd2.out, show m - (j + 1) = f by have := Hf.out; omega], by rw [List.map_append]; exact ho3, Blk.below hR2 hB3 hbw, grown_then (grown_trans hga hg2) hB3⟩
              case measure => simp [intOf]; omega
          · obtain rfl : j = m := by omega
            have HE2 : Hid (readL (l.drop at_) = .ok (xs, k + q)) := by
              show readL (l.drop at_) = _
              rw [HE.out, Hrd.out, Nat.sub_self, rdMany]
              simp [pre]
            go_wp2
            go_ret
            exact listpost_ok HE2.out hga (by rw [Hxs.out]; exact ho) (by rw [show at_ + (k + q) = a by have := Ha.out; have := Hp.out; omega]; exact HRa.out)
end Go.Proofs.Ythpngcfggnhdjaa
