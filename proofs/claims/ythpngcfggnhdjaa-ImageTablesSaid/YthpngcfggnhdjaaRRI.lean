/- The reference's ReadInts of layer 15. -/
import Derived.Test.YthpngcfggnhdjaaRRd
import Derived.Test.YthpngcfggnhdjaaPlR
namespace Go.Proofs.Ythpngcfggnhdjaa
open Go.RowKit Go.Proofs.Img

def RIPost (l : List UInt8) (w : World) (e : Ending) (w' : World) : Prop :=
  Below w.heap.size w w' ∧
  match readL l with
  | .ok (xs, k) => ∃ v, e = .returned (.tuple #[v, .int .i64 (k : Int), .int .i64 0]) ∧ w'.ownsRow w.heap.size 3 1 v xs.length (xs.map iv)
  | .error c => e = .returned (.tuple #[.slice none 0 0, .int .i64 0, .int .i64 c])
theorem ri_err {l : List UInt8} {w w' : World} {c : Int} (h : readL l = .error c) (hb : Below w.heap.size w w') : RIPost l w (.returned (.tuple #[.slice none 0 0, .int .i64 0, .int .i64 c])) w' := by
  refine ⟨hb, ?_⟩
  rw [h]
theorem ri_ok {l : List UInt8} {w w' : World} {xs : List Int} {k : Nat} {v : Value} {kk : Int} (h : readL l = .ok (xs, k)) (hk : kk = (k : Int)) (hb : Below w.heap.size w w') (ho : w'.ownsRow w.heap.size 3 1 v xs.length (xs.map iv)) : RIPost l w (.returned (.tuple #[v, .int .i64 kk, .int .i64 0])) w' := by
  refine ⟨hb, ?_⟩
  rw [h]
  exact ⟨v, by rw [hk], ho⟩
theorem ext_dropP (s : List UInt8) (k : Nat) : (⟨s.toArray⟩ : ByteArray).extract k s.length = ⟨(s.drop k).toArray⟩ := by rw [ByteArray.extract_mk, List.take_of_length_le (by simp)]
def RIRel (l : List UInt8) (k0 n : Nat) (w : World) (at_ v i : Value) (wr : World) : Prop :=
  ∃ (j m : Nat) (xs : List Int), j ≤ n ∧ i = .int .i64 (j : Int) ∧ Hid (xs.length = j) ∧ k0 + m ≤ l.length ∧ at_ = .int .i64 ((k0 + m : Nat) : Int) ∧ Hid (rdMany n (l.drop k0) = pre xs m (rdMany (n - j) (l.drop (k0 + m)))) ∧
    wr.ownsRow w.heap.size 3 1 v j (xs.map iv) ∧ Hid (Below w.heap.size w wr)
theorem refread_ok (l : List UInt8) (x : Int) (k : Nat) (w : World) (hl : l.length ≤ 1000000) (h : readN l = .ok (x, k)) : Calls Try.prog 57 #[.string ⟨l.toArray⟩] w fun e w' => e = .returned (.tuple #[.int .i64 x, .int .i64 (k : Int), .int .i64 0]) ∧ w = w' :=
  (refread_any l w hl).mono fun e w' ⟨h1, h2⟩ => ⟨by rw [h1, h]; rfl, h2⟩
theorem refread_err (l : List UInt8) (c : Int) (w : World) (hl : l.length ≤ 1000000) (h : readN l = .error c) : Calls Try.prog 57 #[.string ⟨l.toArray⟩] w fun e w' => e = .returned (.tuple #[.int .i64 0, .int .i64 0, .int .i64 c]) ∧ w = w' :=
  (refread_any l w hl).mono fun e w' ⟨h1, h2⟩ => ⟨by rw [h1, h]; rfl, h2⟩

set_option maxRecDepth 100000 in
set_option maxHeartbeats 2000000 in
theorem refreadInts_any (l : List UInt8) (w : World) (hl : l.length ≤ 1000000) : Calls Try.prog 47 #[.string ⟨l.toArray⟩] w (RIPost l w) := by
  obtain ⟨i0, hi, hz0, hz1, hz2⟩ := info_parts Try.info3
  cases hN : readN l with
  | error c =>
    have HN := Lib.hid hN
    have HL := Lib.hid (show readL l = .error c by rw [readL, hN])
    have hc : (c != 0) = true := by have := readN_code hN; simp; omega
    clear hN
    go_enter Try.func47, Try.ntmps47
    go_wp2_with fail
    refine (refread_err l c w hl HN.out).mono ?_
    rintro e w1 ⟨rfl, rfl⟩
    go_wp2
    exact bodyPost_ret (v := .tuple #[.slice none 0 0, .int .i64 0, .int .i64 c]) (by simp [results, Try.results47, go_sem]) rfl (ri_err HL.out (Below.refl _ _))
  | ok r =>
    obtain ⟨n, k⟩ := r
    have HN := Lib.hid hN
    obtain ⟨hnI, _, hk1, hk2⟩ := readN_min hN
    have HL : Hid (readL l = if n < 0 ∨ n > (l.length : Int) - k then .error 1 else match rdMany n.toNat (l.drop k) with | .error e => .error e | .ok (xs, m) => .ok (xs, k + m)) := by
      show readL l = _
      rw [readL, hN]
      rfl
    have HnI := Lib.hid hnI
    clear hN hnI
    by_cases hneg : n < 0
    · have HE := Lib.hid (HL.out.trans (if_pos (.inl hneg)))
      go_enter Try.func47, Try.ntmps47
      go_wp2_with fail
      refine (refread_ok l n k w hl HN.out).mono ?_
      rintro e w1 ⟨rfl, rfl⟩
      go_wp2
      exact bodyPost_ret (v := .tuple #[.slice none 0 0, .int .i64 0, .int .i64 1]) (by simp [results, Try.results47, go_sem]) rfl (ri_err HE.out (Below.refl _ _))
    · by_cases hbig : n > (l.length : Int) - (k : Int)
      · have HE := Lib.hid (HL.out.trans (if_pos (.inr hbig)))
        go_enter Try.func47, Try.ntmps47
        go_wp2_with fail
        refine (refread_ok l n k w hl HN.out).mono ?_
        rintro e w1 ⟨rfl, rfl⟩
        go_wp2
        exact bodyPost_ret (v := .tuple #[.slice none 0 0, .int .i64 0, .int .i64 1]) (by simp [results, Try.results47, go_sem]) rfl (ri_err HE.out (Below.refl _ _))
      · have HE := Lib.hid (HL.out.trans (if_neg (by omega)))
        obtain ⟨m, rfl⟩ := Int.eq_ofNat_of_zero_le (show 0 ≤ n by omega)
        rw [Int.toNat_natCast] at HE
        have hm1 : m ≤ 1000000 := by omega
        have hmk : (m : Int) ≤ (l.length : Int) - (k : Int) := by omega
        clear hneg hbig
        go_enter Try.func47, Try.ntmps47
        go_wp2_with fail
        refine (refread_ok l (m : Int) k w hl HN.out).mono ?_
        rintro e w1 ⟨rfl, rfl⟩
        go_wp2
        go_loopw [6, 8, 9] (fun at_ v i wr => RIRel l k m w at_ v i wr) (fun _ _ i _ => m - (intOf i).toNat)
        case atStart => exact ⟨0, 0, [], by omega, rfl, rfl, by omega, rfl, by show rdMany m (l.drop k) = pre [] 0 (rdMany (m - 0) (l.drop (k + 0))); simp only [Nat.sub_zero, Nat.add_zero]; cases rdMany m (l.drop k) <;> simp [pre], World.ownsRow_nil _ _ _ _, Below.refl _ _⟩
        case round =>
          obtain ⟨j, q, xs, hj, rfl, Hxs, hq, rfl, Hrd, ho, Hb⟩ := hrel
          by_cases hlt : j < m
          · have hx1 := ext_dropP l (k + q)
            have hTl : (l.drop (k + q)).length ≤ 1000000 := by rw [List.length_drop]; omega
            have hkq : ((k + q : Nat) : Int) ≤ (l.length : Int) := by omega
            cases hR : readN (l.drop (k + q)) with
            | error c =>
              have HR := Lib.hid hR
              have hc : (c != 0) = true := by have := readN_code hR; simp; omega
              have HEr := Lib.hid (show readL l = .error c by
                rw [HE.out, Hrd.out, show m - j = (m - j - 1) + 1 by omega, pre_err xs q (k + q) _ l c hR])
              clear hR
              generalize l.drop (k + q) = T at hx1 hTl HR
              generalize hA : k + q = a at hx1 hq hkq
              have HA := Lib.hid hA
              clear hA
              go_wp2_with fail
              refine (refread_err T c _ hTl HR.out).mono ?_
              rintro e w1 ⟨rfl, rfl⟩
              go_wp2
              exact bodyPost_ret (v := .tuple #[.slice none 0 0, .int .i64 0, .int .i64 c]) (by simp [results, Try.results47, go_sem]) rfl (ri_err HEr.out Hb.out)
            | ok r =>
              obtain ⟨x, p⟩ := r
              have HR := Lib.hid hR
              obtain ⟨_, _, hp1, _⟩ := readN_min hR
              rw [List.length_drop] at hp1
              have Hnx := Lib.hid (show rdMany m (l.drop k) = pre (xs ++ [x]) (q + p) (rdMany (m - (j + 1)) (l.drop (k + (q + p)))) by
                rw [Hrd.out, show m - j = (m - (j + 1)) + 1 by omega, pre_ok xs q (k + q) _ l x p hR, Nat.add_assoc])
              have hqp : k + (q + p) ≤ l.length := by omega
              have Hat := Lib.hid (show ((k + q : Nat) : Int) + (p : Int) = ((k + (q + p) : Nat) : Int) by omega)
              clear hR
              generalize l.drop (k + q) = T at hx1 hTl HR
              generalize hA : k + q = a at hx1 hq hkq Hat
              have HA := Lib.hid hA
              have hp2 : a + p ≤ l.length := by omega
              clear hA
              go_wp2_with fail
              refine (refread_ok T x p _ hTl HR.out).mono ?_
              rintro e w1 ⟨rfl, rfl⟩
              go_wp2_with (at_builtin; go_must (refine wpList_app1 rfl (.tmp 48) (.tmp 50) 26 rfl Try.underlying26 hi hz0 hz1 hz2 rfl (by omega) wr u8 _ _ rfl ho _ rfl rfl (by omega) Hb.out.size ?_); intro v3 w3 ho3 hB3 _)
              go_roundw
              case rel => exact ⟨j + 1, q + p, xs ++ [x], by omega, by go_num, by show (xs ++ [x]).length = j + 1; have := Hxs.out; simp; omega, hqp, vint Hat.out, Hnx.out, by simpa [iv] using ho3, Hb.out.trans hB3⟩
              case measure => simp [intOf]; omega
          · have hjm : j = m := by omega
            have HEo := Lib.hid (show readL l = .ok (xs, k + q) by
              rw [HE.out, Hrd.out, show m - j = 0 by omega, rdMany]; simp [pre])
            have Hl := Hxs
            clear hjm
            obtain ⟨A1, c2, rfl, _, _⟩ := val_of_own ho
            go_wp2
            exact bodyPost_ret (v := .tuple #[.slice A1 j c2, .int .i64 ((k + q : Nat) : Int), .int .i64 0]) (by simp [results, Try.results47, go_sem]) rfl (ri_ok HEo.out rfl Hb.out (by rw [Hl.out]; exact ho))
theorem refreadInts_ok (l : List UInt8) (xs : List Int) (k : Nat) (w : World) (hl : l.length ≤ 1000000) (h : readL l = .ok (xs, k)) : Calls Try.prog 47 #[.string ⟨l.toArray⟩] w fun e w' => ∃ v, e = .returned (.tuple #[v, .int .i64 (k : Int), .int .i64 0]) ∧ w'.ownsRow w.heap.size 3 1 v xs.length (xs.map iv) ∧ Below w.heap.size w w' :=
  (refreadInts_any l w hl).mono fun e w' ⟨hb, hm⟩ => by rw [h] at hm; obtain ⟨v, h1, h2⟩ := hm; exact ⟨v, h1, h2, hb⟩
theorem refreadInts_err (l : List UInt8) (c : Int) (w : World) (hl : l.length ≤ 1000000) (h : readL l = .error c) : Calls Try.prog 47 #[.string ⟨l.toArray⟩] w fun e w' => e = .returned (.tuple #[.slice none 0 0, .int .i64 0, .int .i64 c]) ∧ Below w.heap.size w w' :=
  (refreadInts_any l w hl).mono fun e w' ⟨hb, hm⟩ => by rw [h] at hm; exact ⟨hm, hb⟩
end Go.Proofs.Ythpngcfggnhdjaa
