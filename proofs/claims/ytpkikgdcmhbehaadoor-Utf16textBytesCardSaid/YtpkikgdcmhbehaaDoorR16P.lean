/- The reference's Pair, Bytes, Read, Units of layer 4. -/
import Derived.Test.YtpkikgdcmhbehaaDoorU16W
import Derived.Test.YtpkikgdcmhbehaaDoorStep
import Derived.Outline
namespace Go.Proofs.YtpkikgdcmhbehaaDoor
open Go.RowKit

set_option maxRecDepth 100000 in
set_option maxHeartbeats 1000000 in
theorem rpair_any (u : Int) (big : Bool) (w : World) (hu0 : 0 ≤ u) (hu1 : u ≤ 65535) :
    Calls Tryd.prog 33 #[.int .i64 u, .bool big] w fun e w' => e = .returned (.string ⟨(pairB u big).toArray⟩) ∧ Below w.heap.size w w' := by
  obtain ⟨x, rfl⟩ := Int.eq_ofNat_of_zero_le hu0
  have ha : x / 256 < 256 := by omega
  have hb : x % 256 < 256 := by omega
  cases big with
  | true =>
    have hcv := conv_new (P := Tryd.prog) w Tryd.underlying50 Tryd.underlying5 Tryd.underlying9 #[.int .u8 ((x : Int) / 256), .int .u8 ((x : Int) % 256)] (pairB (x : Int) true) (by
      simp only [pairB, if_true, List.map_cons, List.map_nil, Int.toNat_natCast]
      rw [bv_ofNat _ (by omega), bv_ofNat _ (by omega)]; rfl) 2 (pair_len _ _)
    generalize pairB (x : Int) true = s at hcv ⊢
    go_enter Tryd.func33, Tryd.ntmps33
    go_wp2
    go_ret
    exact ⟨rfl, (Below.refl _ _).alloc (Nat.le_refl _) _⟩
  | false =>
    have hcv := conv_new (P := Tryd.prog) w Tryd.underlying50 Tryd.underlying5 Tryd.underlying9 #[.int .u8 ((x : Int) % 256), .int .u8 ((x : Int) / 256)] (pairB (x : Int) false) (by
      simp only [pairB, Bool.false_eq_true, if_false, List.map_cons, List.map_nil, Int.toNat_natCast]
      rw [bv_ofNat _ (by omega), bv_ofNat _ (by omega)]; rfl) 2 (pair_len _ _)
    generalize pairB (x : Int) false = s at hcv ⊢
    go_enter Tryd.func33, Tryd.ntmps33
    go_wp2
    go_ret
    exact ⟨rfl, (Below.refl _ _).alloc (Nat.le_refl _) _⟩

def RBytRel (w : World) (l : List Int) (big mark : Bool) (s i : Value) (wr : World) : Prop :=
  ∃ (k : Nat) (out : List UInt8), k ≤ l.length ∧ i = .int .i64 (k : Int) ∧ s = .string ⟨out.toArray⟩ ∧ out.length ≤ 2 * k + 2 ∧ preB (markB big mark) (byt16 big 0 l) = preB out (byt16 big k (l.drop k)) ∧
    fltB wr w.heap.size 0 0 ∧ Below w.heap.size w wr

set_option maxRecDepth 100000 in
set_option maxHeartbeats 2000000 in
theorem rbytes_any (n cap : Nat) (A : Option Addr) (l : List Int) (big mark : Bool) (w : World) (h : Reads w w.heap.size 1 A n (l.map iv)) (hn : n ≤ 100000) :
    Calls Tryd.prog 17 #[.slice A n cap, .bool big, .bool mark] w fun e w' => e = .returned (.tuple #[.string ⟨(bytR l big mark).1.toArray⟩, .agg #[.int .i64 (bytR l big mark).2.1, .int .i64 (bytR l big mark).2.2]]) ∧ Below w.heap.size w w' := by
  have hl := len_of h
  have Hl := Lib.hid hl
  clear hl
  have hF0 := Blk.new w 26 #[.int .i64 0, .int .i64 0]
  have hB0 := below_new w (.cells #[.int .i64 0, .int .i64 0] 26)
  have main : ∀ (s0 : List UInt8) (W : World), s0 = markB big mark → fltB W w.heap.size 0 0 → Below w.heap.size w W → RBytRel w l big mark (.string ⟨s0.toArray⟩) (.int .i64 0) W := by
    intro s0 W e hF hB
    exact ⟨0, s0, by omega, rfl, rfl, by rw [e, markB]; split <;> simp [pair_len], by rw [e]; rfl, hF, hB⟩
  have Main := Lib.hid main
  clear main
  go_enter Tryd.func17, Tryd.ntmps17
  cases mark with
  | false =>
    go_wp2_with fail
    have h0 := Lib.hid (Main.out [] _ rfl hF0 hB0)
    go_loopw [8, 9] (fun s i wr => RBytRel w l big false s i wr) (fun _ i _ => n - (intOf i).toNat)
    case atStart => exact h0.out
    case round =>
      obtain ⟨k, out, hk, rfl, rfl, hol, he, hF, hb⟩ := hrel
      rw [Hl.out] at hk
      have Hee := Lib.hid he
      clear he
      by_cases hlt : k < n
      · obtain ⟨ad, uu, rfl, hadB, hu, hcell⟩ := (h.below hb).at_ hlt
        obtain ⟨u, hc, rfl⟩ := iv_at hu
        have Hdr := Lib.hid (drop_at hc)
        have hkl : k < l.length := by rw [Hl.out]; exact hlt
        clear hu hc
        by_cases hur : 0 ≤ u ∧ u ≤ 65535
        · have Hst := Lib.hid (show byt16 big k (l.drop k) = preB (pairB u big) (byt16 big (k + 1) (l.drop (k + 1))) by rw [Hdr.out, byt16, if_pos hur])
          obtain ⟨hu0, hu1⟩ := hur
          have hu0' : ¬ u < 0 := by omega
          have hu1' : ¬ 65535 < u := by omega
          have hpl := pair_len u big
          have HF := Lib.hid hF
          clear hF
          go_wp2_with fail
          refine (rpair_any u big wr hu0 hu1).mono ?_
          rintro e w3 ⟨rfl, hb3⟩
          generalize hX : pairB u big = X at hpl
          have HX := Lib.hid hX
          have hXl : X.length ≤ 2 := by omega
          have Hpl := Lib.hid hpl
          clear hX hpl
          have eA : (⟨out.toArray⟩ : ByteArray) ++ ⟨X.toArray⟩ = ⟨(out ++ X).toArray⟩ := ByteArray.mk_append_mk out X
          obtain ⟨S, hS⟩ : ∃ S, S = out ++ X := ⟨_, rfl⟩
          rw [← hS] at eA
          have hSl : S.length ≤ 300000 := by rw [hS, List.length_append, Hpl.out]; omega
          have HS := Lib.hid hS
          clear hS
          have HB := Lib.hid (hb.trans (hb3.mono hb.size))
          have HF3 := Lib.hid (Blk.stay HF.out hb3)
          clear hb3 hb
          go_wp2
          go_roundw
          case rel => exact ⟨k + 1, S, by omega, by go_num, rfl, by rw [HS.out, List.length_append, Hpl.out]; omega, by rw [Hee.out, Hst.out, preB_preB, HX.out, HS.out], HF3.out, HB.out⟩
          case measure => simp [intOf]; omega
        · have Herr := Lib.hid (show bytR l big false = ([], 1, (k : Int)) by rw [bytR, Hee.out, Hdr.out, byt16, if_neg hur]; rfl)
          have c0 := hF.cell 0
          have c1 := hF.cell 1
          have f0 := hF.frozen 0
          have f1 := hF.frozen 1
          have hF2 := (hF.set_ 0 (.int .i64 1)).set_ 1 (.int .i64 (k : Int))
          have d0 := hF2.cell 0
          have d1 := hF2.cell 1
          by_cases hu0 : u < 0
          · clear hur
            go_wp2
            refine bodyPost_ret (v := .tuple #[.string ⟨#[]⟩, .agg #[.int .i64 1, .int .i64 (k : Int)]]) (by simp [results, Tryd.results17, go_sem] at d0 d1 ⊢; simp [d0, d1]) rfl ⟨by rw [Herr.out], ?_⟩
            exact (hb.setCell (by simp) _).setCell (by simp) _
          · have hu1 : 65535 < u := by omega
            clear hur
            go_wp2
            refine bodyPost_ret (v := .tuple #[.string ⟨#[]⟩, .agg #[.int .i64 1, .int .i64 (k : Int)]]) (by simp [results, Tryd.results17, go_sem] at d0 d1 ⊢; simp [d0, d1]) rfl ⟨by rw [Herr.out], ?_⟩
            exact (hb.setCell (by simp) _).setCell (by simp) _
      · have Hok := Lib.hid (show bytR l big false = (out, 0, 0) by
          rw [bytR, Hee.out, List.drop_of_length_le (by rw [Hl.out]; omega), byt16]; simp [preB, outB])
        have c0 := hF.cell 0
        have c1 := hF.cell 1
        have f0 := hF.frozen 0
        have f1 := hF.frozen 1
        have hF2 := (hF.set_ 0 (.int .i64 0)).set_ 1 (.int .i64 0)
        have d0 := hF2.cell 0
        have d1 := hF2.cell 1
        go_wp2
        refine bodyPost_ret (v := .tuple #[.string ⟨out.toArray⟩, .agg #[.int .i64 0, .int .i64 0]]) (by simp [results, Tryd.results17, go_sem] at d0 d1 ⊢; simp [d0, d1]) rfl ⟨by rw [Hok.out], ?_⟩
        exact (hb.setCell (by simp) _).setCell (by simp) _
  | true =>
    go_wp2_with fail
    refine (rpair_any 65279 big _ (by omega) (by omega)).mono ?_
    rintro e w1 ⟨rfl, hb1⟩
    have hF1 := hF0.stay hb1
    have hB1 := hB0.trans (hb1.mono hB0.size)
    have h0 := Lib.hid (Main.out (pairB 65279 big) _ rfl hF1 hB1)
    clear hF0 hB0 hb1 hF1 hB1
    go_wp2_with fail
    go_loopw [8, 9] (fun s i wr => RBytRel w l big true s i wr) (fun _ i _ => n - (intOf i).toNat)
    case atStart => exact h0.out
    case round =>
      obtain ⟨k, out, hk, rfl, rfl, hol, he, hF, hb⟩ := hrel
      rw [Hl.out] at hk
      have Hee := Lib.hid he
      clear he
      by_cases hlt : k < n
      · obtain ⟨ad, uu, rfl, hadB, hu, hcell⟩ := (h.below hb).at_ hlt
        obtain ⟨u, hc, rfl⟩ := iv_at hu
        have Hdr := Lib.hid (drop_at hc)
        have hkl : k < l.length := by rw [Hl.out]; exact hlt
        clear hu hc
        by_cases hur : 0 ≤ u ∧ u ≤ 65535
        · have Hst := Lib.hid (show byt16 big k (l.drop k) = preB (pairB u big) (byt16 big (k + 1) (l.drop (k + 1))) by rw [Hdr.out, byt16, if_pos hur])
          obtain ⟨hu0, hu1⟩ := hur
          have hu0' : ¬ u < 0 := by omega
          have hu1' : ¬ 65535 < u := by omega
          have hpl := pair_len u big
          have HF := Lib.hid hF
          clear hF
          go_wp2_with fail
          refine (rpair_any u big wr hu0 hu1).mono ?_
          rintro e w3 ⟨rfl, hb3⟩
          generalize hX : pairB u big = X at hpl
          have HX := Lib.hid hX
          have hXl : X.length ≤ 2 := by omega
          have Hpl := Lib.hid hpl
          clear hX hpl
          have eA : (⟨out.toArray⟩ : ByteArray) ++ ⟨X.toArray⟩ = ⟨(out ++ X).toArray⟩ := ByteArray.mk_append_mk out X
          obtain ⟨S, hS⟩ : ∃ S, S = out ++ X := ⟨_, rfl⟩
          rw [← hS] at eA
          have hSl : S.length ≤ 300000 := by rw [hS, List.length_append, Hpl.out]; omega
          have HS := Lib.hid hS
          clear hS
          have HB := Lib.hid (hb.trans (hb3.mono hb.size))
          have HF3 := Lib.hid (Blk.stay HF.out hb3)
          clear hb3 hb
          go_wp2
          go_roundw
          case rel => exact ⟨k + 1, S, by omega, by go_num, rfl, by rw [HS.out, List.length_append, Hpl.out]; omega, by rw [Hee.out, Hst.out, preB_preB, HX.out, HS.out], HF3.out, HB.out⟩
          case measure => simp [intOf]; omega
        · have Herr := Lib.hid (show bytR l big true = ([], 1, (k : Int)) by rw [bytR, Hee.out, Hdr.out, byt16, if_neg hur]; rfl)
          have c0 := hF.cell 0
          have c1 := hF.cell 1
          have f0 := hF.frozen 0
          have f1 := hF.frozen 1
          have hF2 := (hF.set_ 0 (.int .i64 1)).set_ 1 (.int .i64 (k : Int))
          have d0 := hF2.cell 0
          have d1 := hF2.cell 1
          by_cases hu0 : u < 0
          · clear hur
            go_wp2
            refine bodyPost_ret (v := .tuple #[.string ⟨#[]⟩, .agg #[.int .i64 1, .int .i64 (k : Int)]]) (by simp [results, Tryd.results17, go_sem] at d0 d1 ⊢; simp [d0, d1]) rfl ⟨by rw [Herr.out], ?_⟩
            exact (hb.setCell (by simp) _).setCell (by simp) _
          · have hu1 : 65535 < u := by omega
            clear hur
            go_wp2
            refine bodyPost_ret (v := .tuple #[.string ⟨#[]⟩, .agg #[.int .i64 1, .int .i64 (k : Int)]]) (by simp [results, Tryd.results17, go_sem] at d0 d1 ⊢; simp [d0, d1]) rfl ⟨by rw [Herr.out], ?_⟩
            exact (hb.setCell (by simp) _).setCell (by simp) _
      · have Hok := Lib.hid (show bytR l big true = (out, 0, 0) by
          rw [bytR, Hee.out, List.drop_of_length_le (by rw [Hl.out]; omega), byt16]; simp [preB, outB])
        have c0 := hF.cell 0
        have c1 := hF.cell 1
        have f0 := hF.frozen 0
        have f1 := hF.frozen 1
        have hF2 := (hF.set_ 0 (.int .i64 0)).set_ 1 (.int .i64 0)
        have d0 := hF2.cell 0
        have d1 := hF2.cell 1
        go_wp2
        refine bodyPost_ret (v := .tuple #[.string ⟨out.toArray⟩, .agg #[.int .i64 0, .int .i64 0]]) (by simp [results, Tryd.results17, go_sem] at d0 d1 ⊢; simp [d0, d1]) rfl ⟨by rw [Hok.out], ?_⟩
        exact (hb.setCell (by simp) _).setCell (by simp) _

/-- the units of bytes, as the reference reads them -/
def RdRel (w : World) (m : List UInt8) (big : Bool) (v i : Value) (wr : World) : Prop :=
  ∃ (j : Nat) (out : List Int), j ≤ m.length ∧ i = .int .i64 (j : Int) ∧ Hid (j = 2 * out.length) ∧ Hid (unt big m = out ++ unt big (m.drop j)) ∧
    wr.ownsRow w.heap.size 3 1 v out.length (out.map iv) ∧ Below w.heap.size w wr
theorem unt_short (big : Bool) (m : List UInt8) (h : m.length ≤ 1) : unt big m = [] := by
  match m, h with
  | [], _ => rfl
  | [_], _ => rfl

set_option maxRecDepth 100000 in
set_option maxHeartbeats 2000000 in
theorem rread_any (m : List UInt8) (big : Bool) (w : World) (hl : m.length ≤ 100000) :
    Calls Tryd.prog 34 #[.string ⟨m.toArray⟩, .bool big] w fun e w' => ∃ v, e = .returned v ∧ w'.ownsRow w.heap.size 3 1 v (unt big m).length ((unt big m).map iv) ∧ Below w.heap.size w w' := by
  obtain ⟨i0, hi, hz0, hz1, hz2⟩ := info_parts Tryd.info3
  go_enter Tryd.func34, Tryd.ntmps34
  go_wp2
  go_loopw [5, 6] (fun v i wr => RdRel w m big v i wr) (fun _ i _ => m.length - (intOf i).toNat)
  case atStart => exact ⟨0, [], by omega, rfl, rfl, rfl, World.ownsRow_nil _ _ _ _, Below.refl _ _⟩
  case round =>
    obtain ⟨j, out, hj, rfl, hout, he, ho, hb⟩ := hrel
    have hol : out.length ≤ 100000 := by have := hout.out; omega
    by_cases hlt : j + 1 < m.length
    · obtain ⟨x, hx, hx2, hx256⟩ := byte_at (s := m) (k := j) (by omega)
      obtain ⟨y, hy, hy2, hy256⟩ := byte_at hlt
      have Hx := Lib.hid hx2
      have Hy := Lib.hid hy2
      have hb1 : (j : Int) < (m.length : Int) := by omega
      have hb2 : (j : Int) + 1 < (m.length : Int) := by omega
      clear hx2 hy2
      cases big with
      | true =>
        have Hst := Lib.hid (show unt true (m.drop j) = ((256 * x + y : Nat) : Int) :: unt true (m.drop (j + 2)) by rw [drop_two hlt, unt, Hx.out, Hy.out]; rfl)
        go_wp2
        have q1 : IntKind.i64.wrap ((j : Int) + 1) = (j : Int) + 1 := IntWalk.i64_in _ (by omega)
        have q2 : 0 ≤ (j : Int) + 1 := by omega
        have q3 : ((j : Int) + 1).toNat = j + 1 := by omega
        have q5 : IntKind.i64.wrap (IntKind.i64.wrap (256 * IntKind.i64.wrap (x : Int)) + IntKind.i64.wrap (y : Int)) = ((256 * x + y : Nat) : Int) := by
          rw [IntWalk.i64_in (x : Int) (by omega), IntWalk.i64_in (y : Int) (by omega), IntWalk.i64_in (256 * (x : Int)) (by omega), IntWalk.i64_in _ (by omega)]; omega
        have Q5 := Lib.hid q5
        clear q5
        have hbz := hb.size
        generalize 256 * x + y = z at Hst Q5
        go_region_held3 (fun _ => True) (trivial) ((refine step_app1 (by rfl) (.tmp 15) (.tmp 27) 22 (by rfl) Tryd.underlying22 hi hz0 hz1 hz2 rfl (by omega) u5 out.length (out.map iv) (by rfl) ((ho.alloc _).drew) (.int .i64 (z : Int)) ⟨wr.heap.size, 0, none⟩ (by rfl) (by simp; exact Q5.out) (by rfl) (by omega) (by simp; omega) ?_; intro v3 w3 ho3 hB3 _))
        all_goals
          clear q1 q2 q3
          have HB := Lib.hid (hb.trans (((((Below.refl _ _).alloc hbz _).drew).trans hB3)))
          clear hB3
          go_wp2
          go_roundw
          case rel => exact ⟨j + 2, out ++ [(z : Int)], by omega, by go_num, by show j + 2 = 2 * (out ++ [(z : Int)]).length; have := hout.out; simp; omega, by show unt true m = _; rw [he.out, Hst.out]; simp, by simpa [iv] using ho3, HB.out⟩
          case measure => simp [intOf]; omega
      | false =>
        have Hst := Lib.hid (show unt false (m.drop j) = ((256 * y + x : Nat) : Int) :: unt false (m.drop (j + 2)) by rw [drop_two hlt, unt, Hx.out, Hy.out]; rfl)
        go_wp2
        have q1 : IntKind.i64.wrap ((j : Int) + 1) = (j : Int) + 1 := IntWalk.i64_in _ (by omega)
        have q2 : 0 ≤ (j : Int) + 1 := by omega
        have q3 : ((j : Int) + 1).toNat = j + 1 := by omega
        have q5 : IntKind.i64.wrap (IntKind.i64.wrap (256 * IntKind.i64.wrap (y : Int)) + IntKind.i64.wrap (x : Int)) = ((256 * y + x : Nat) : Int) := by
          rw [IntWalk.i64_in (y : Int) (by omega), IntWalk.i64_in (x : Int) (by omega), IntWalk.i64_in (256 * (y : Int)) (by omega), IntWalk.i64_in _ (by omega)]; omega
        have Q5 := Lib.hid q5
        clear q5
        have hbz := hb.size
        generalize 256 * y + x = z at Hst Q5
        go_region_held3 (fun _ => True) (trivial) ((refine step_app1 (by rfl) (.tmp 29) (.tmp 41) 22 (by rfl) Tryd.underlying22 hi hz0 hz1 hz2 rfl (by omega) u5 out.length (out.map iv) (by rfl) ((ho.alloc _).drew) (.int .i64 (z : Int)) ⟨wr.heap.size, 0, none⟩ (by rfl) (by simp; exact Q5.out) (by rfl) (by omega) (by simp; omega) ?_; intro v3 w3 ho3 hB3 _))
        all_goals
          clear q1 q2 q3
          have HB := Lib.hid (hb.trans (((((Below.refl _ _).alloc hbz _).drew).trans hB3)))
          clear hB3
          go_wp2
          go_roundw
          case rel => exact ⟨j + 2, out ++ [(z : Int)], by omega, by go_num, by show j + 2 = 2 * (out ++ [(z : Int)]).length; have := hout.out; simp; omega, by show unt false m = _; rw [he.out, Hst.out]; simp, by simpa [iv] using ho3, HB.out⟩
          case measure => simp [intOf]; omega
    · have Hfin := Lib.hid (show unt big m = out by rw [he.out, unt_short big _ (by rw [List.length_drop]; omega), List.append_nil])
      have hnlt : ¬ (j : Int) + 1 < (m.length : Int) := by omega
      go_wp2
      go_ret
      exact ⟨u5, rfl, by rw [Hfin.out]; exact ho, hb⟩

theorem rreadH (m : List UInt8) (o : List Int) (big : Bool) (w : World) (hl : m.length ≤ 100000) (hR : unt big m = o) :
    Calls Tryd.prog 34 #[.string ⟨m.toArray⟩, .bool big] w fun x w' => ∃ A c, x = .returned (.slice A o.length c) ∧ o.length ≤ c ∧ w'.ownsRow w.heap.size 3 1 (.slice A o.length c) o.length (o.map iv) ∧ Below w.heap.size w w' :=
  (rread_any m big w hl).mono fun x w' ⟨v, h1, h2, h3⟩ => by
    rw [hR] at h2
    obtain ⟨A, c, rfl, hc, hr⟩ := val_of_own h2
    exact ⟨A, c, h1, hc, h2, h3⟩
/-- a fault of zeros is written; the row stays -/
theorem own_flt {w1 : World} {b B n : Nat} {v : Value} {xs : List Value} (h : w1.ownsRow B 3 1 v n xs) (hb : b < B) : ((w1.setCell ⟨b, 0, none⟩ (.int .i64 0)).setCell ⟨b, 1, none⟩ (.int .i64 0)).ownsRow B 3 1 v n xs :=
  ownsRow_setCell_below (ownsRow_setCell_below h hb _) hb _
theorem addr_add0 (ad : Addr) : ad.add 0 = ad := by unfold Addr.add; simp

theorem units_cases (l : List UInt8) (big : Bool) (he : l.length % 2 = 0) : (l = [] ∧ untR l big = ([], big, 0, 0)) ∨
    ∃ h rest, unt big l = h :: rest ∧ ((h ≠ 65534 ∧ h ≠ 65279 ∧ untR l big = (h :: rest, big, 0, 0)) ∨ (h = 65279 ∧ untR l big = (rest, big, 0, 0)) ∨
      (h = 65534 ∧ ∃ rest', unt (!big) l = 65279 :: rest' ∧ untR l big = (rest', !big, 0, 0))) := by
  match l, he with
  | [], _ => left; exact ⟨rfl, rfl⟩
  | [a], he => simp at he
  | a :: b :: t, he =>
    right
    have ha := a.toNat_lt
    have hb := b.toNat_lt
    have hu : untR (a :: b :: t) big = (unt (bom (a :: b :: t) big).2 (bom (a :: b :: t) big).1, (bom (a :: b :: t) big).2, 0, 0) := by rw [untR, if_neg (by omega)]
    refine ⟨_, _, rfl, ?_⟩
    have e1 : (254 : UInt8).toNat = 254 := rfl
    have e2 : (255 : UInt8).toNat = 255 := rfl
    by_cases hbe : a = 254 ∧ b = 255
    · have hm : bom (a :: b :: t) big = (t, true) := by rw [bom_of rfl, if_pos hbe]
      rw [hm] at hu
      obtain ⟨rfl, rfl⟩ := hbe
      cases big with
      | true => right; left; exact ⟨rfl, hu⟩
      | false => right; right; exact ⟨rfl, unt true t, rfl, hu⟩
    · by_cases hle : a = 255 ∧ b = 254
      · have hm : bom (a :: b :: t) big = (t, false) := by rw [bom_of rfl, if_neg hbe, if_pos hle]
        rw [hm] at hu
        obtain ⟨rfl, rfl⟩ := hle
        cases big with
        | true => right; right; exact ⟨rfl, unt false t, rfl, hu⟩
        | false => right; left; exact ⟨rfl, hu⟩
      · have hm : bom (a :: b :: t) big = (a :: b :: t, big) := by rw [bom_of rfl, if_neg hbe, if_neg hle]
        rw [hm] at hu
        left
        simp only [toNat_eq, e1, e2] at hbe hle
        refine ⟨?_, ?_, hu⟩
        · cases big <;> simp <;> omega
        · cases big <;> simp <;> omega

set_option maxRecDepth 100000 in
set_option maxHeartbeats 2000000 in
theorem runits_odd (l : List UInt8) (big : Bool) (w : World) (hl : l.length ≤ 100000) (he : l.length % 2 = 1) :
    Calls Tryd.prog 19 #[.string ⟨l.toArray⟩, .bool big] w fun x w' => ∃ A' c', x = .returned (.tuple #[.slice A' ([] : List Int).length c', .bool false, .agg #[.int .i64 9, .int .i64 ((l.length : Int) - 1)]]) ∧ Reads w' w'.heap.size 1 A' ([] : List Int).length (([] : List Int).map iv) ∧ Below w.heap.size w w' := by
  have ho' : ((l.length : Int) % 2 == 1) = true := by simp; omega
  have hl1 : 1 ≤ l.length := by omega
  have HE := Lib.hid he
  clear he
  go_enter Tryd.func19, Tryd.ntmps19
  go_wp2
  refine bodyPost_ret (v := .tuple #[.slice none 0 0, .bool false, .agg #[.int .i64 9, .int .i64 ((l.length : Int) - 1)]]) (by simp [results, Tryd.results19, go_sem]) rfl ⟨none, 0, rfl, Reads.none_, ?_⟩
  exact (Below.refl _ _).alloc (Nat.le_refl _) _
set_option maxRecDepth 100000 in
set_option maxHeartbeats 2000000 in
theorem runits_nil (l : List UInt8) (big : Bool) (w : World) (hl : l.length ≤ 100000) (he : l.length % 2 = 0) (hu : unt big l = []) :
    Calls Tryd.prog 19 #[.string ⟨l.toArray⟩, .bool big] w fun x w' => ∃ A' c', x = .returned (.tuple #[.slice A' ([] : List Int).length c', .bool big, .agg #[.int .i64 0, .int .i64 0]]) ∧ Reads w' w'.heap.size 1 A' ([] : List Int).length (([] : List Int).map iv) ∧ Below w.heap.size w w' := by
  have ho' : ((l.length : Int) % 2 == 1) = false := by simp; omega
  have HE := Lib.hid he
  clear he
  have hF0 := Blk.new w 26 #[.int .i64 0, .int .i64 0]
  have hB0 := below_new w (.cells #[.int .i64 0, .int .i64 0] 26)
  have HU1 := Lib.hid hu
  clear hu
  go_enter Tryd.func19, Tryd.ntmps19
  go_wp2_with fail
  refine (rreadH l [] big _ hl HU1.out).mono ?_
  rintro e w1 ⟨A1, c1, rfl, hc1, ho1, hb1⟩
  have hF1 := hF0.stay hb1
  have hB1 := hB0.trans (hb1.mono hB0.size)
  clear hF0 hB0 hb1
  have k0 := hF1.cell 0
  have k1 := hF1.cell 1
  have z0 := hF1.frozen 0
  have z1 := hF1.frozen 1
  have hF9 := (hF1.set_ 0 (.int .i64 0)).set_ 1 (.int .i64 0)
  have d0 := hF9.cell 0
  have d1 := hF9.cell 1
  have hlt := Blk.lt hF1
  have hB9 := ((hB1.setCell (p := ⟨w.heap.size, 0, none⟩) (Nat.le_refl _) (.int .i64 0)).setCell (p := ⟨w.heap.size, 1, none⟩) (Nat.le_refl _) (.int .i64 0))
  go_wp2
  refine bodyPost_ret (v := .tuple #[.slice A1 0 c1, .bool big, .agg #[.int .i64 0, .int .i64 0]]) (by simp [results, Tryd.results19, go_sem] at d0 d1 ⊢; simp [d0, d1]) rfl ⟨_, _, rfl, Reads.none_, hB9⟩
set_option maxRecDepth 100000 in
set_option maxHeartbeats 2000000 in
theorem runits_plain (l : List UInt8) (big : Bool) (w : World) (hl : l.length ≤ 100000) (h : Int) (rest : List Int) (he : l.length % 2 = 0) (hu : unt big l = h :: rest) (h1 : h ≠ 65534) (h2 : h ≠ 65279) :
    Calls Tryd.prog 19 #[.string ⟨l.toArray⟩, .bool big] w fun x w' => ∃ A' c', x = .returned (.tuple #[.slice A' (h :: rest).length c', .bool big, .agg #[.int .i64 0, .int .i64 0]]) ∧ Reads w' w'.heap.size 1 A' (h :: rest).length ((h :: rest).map iv) ∧ Below w.heap.size w w' := by
  have ho' : ((l.length : Int) % 2 == 1) = false := by simp; omega
  have HE := Lib.hid he
  clear he
  have hF0 := Blk.new w 26 #[.int .i64 0, .int .i64 0]
  have hB0 := below_new w (.cells #[.int .i64 0, .int .i64 0] 26)
  have HU1 := Lib.hid hu
  have t1 : (h == 65534) = false := by simp; omega
  have t2 : (h == 65279) = false := by simp; omega
  clear hu h1 h2
  go_enter Tryd.func19, Tryd.ntmps19
  go_wp2_with fail
  refine (rreadH l (h :: rest) big _ hl HU1.out).mono ?_
  rintro e w1 ⟨A1, c1, rfl, hc1, ho1, hb1⟩
  have HO1 := Lib.hid (own_base ho1 (base' := w.heap.size + 1) (by simp))
  have hF1 := hF0.stay hb1
  have hB1 := hB0.trans (hb1.mono hB0.size)
  obtain ⟨g1, q1, hv1, _, hg1⟩ := ho1.form (by simp)
  obtain rfl : A1 = some ⟨g1, 0, none⟩ := by injection hv1
  have hcell1 : w1.cell? ⟨g1, 0, none⟩ = some (.int .i64 h) := ho1.cells rfl 0 _ rfl
  clear hF0 hB0 hb1 ho1 hv1
  have k0 := hF1.cell 0
  have k1 := hF1.cell 1
  have z0 := hF1.frozen 0
  have z1 := hF1.frozen 1
  have hF9 := (hF1.set_ 0 (.int .i64 0)).set_ 1 (.int .i64 0)
  have d0 := hF9.cell 0
  have d1 := hF9.cell 1
  have hlt := Blk.lt hF1
  have hB9 := ((hB1.setCell (p := ⟨w.heap.size, 0, none⟩) (Nat.le_refl _) (.int .i64 0)).setCell (p := ⟨w.heap.size, 1, none⟩) (Nat.le_refl _) (.int .i64 0))
  have HR9 := Lib.hid (Reads.of_own (own_flt (b := w.heap.size) HO1.out (by omega)))
  go_wp2
  refine bodyPost_ret (v := .tuple #[.slice (some ⟨g1, 0, none⟩) (h :: rest).length c1, .bool big, .agg #[.int .i64 0, .int .i64 0]]) (by simp [results, Tryd.results19, go_sem] at d0 d1 ⊢; simp [d0, d1]) rfl ⟨_, _, rfl, HR9.out, hB9⟩
set_option maxRecDepth 100000 in
set_option maxHeartbeats 2000000 in
theorem runits_mark (l : List UInt8) (big : Bool) (w : World) (hl : l.length ≤ 100000) (rest : List Int) (he : l.length % 2 = 0) (hu : unt big l = 65279 :: rest) :
    Calls Tryd.prog 19 #[.string ⟨l.toArray⟩, .bool big] w fun x w' => ∃ A' c', x = .returned (.tuple #[.slice A' rest.length c', .bool big, .agg #[.int .i64 0, .int .i64 0]]) ∧ Reads w' w'.heap.size 1 A' rest.length (rest.map iv) ∧ Below w.heap.size w w' := by
  have ho' : ((l.length : Int) % 2 == 1) = false := by simp; omega
  have HE := Lib.hid he
  clear he
  have hF0 := Blk.new w 26 #[.int .i64 0, .int .i64 0]
  have hB0 := below_new w (.cells #[.int .i64 0, .int .i64 0] 26)
  have HU1 := Lib.hid hu
  clear hu
  go_enter Tryd.func19, Tryd.ntmps19
  go_wp2_with fail
  refine (rreadH l (65279 :: rest) big _ hl HU1.out).mono ?_
  rintro e w1 ⟨A1, c1, rfl, hc1, ho1, hb1⟩
  have HO1 := Lib.hid (own_base ho1 (base' := w.heap.size + 1) (by simp))
  have hF1 := hF0.stay hb1
  have hB1 := hB0.trans (hb1.mono hB0.size)
  obtain ⟨g1, q1, hv1, _, hg1⟩ := ho1.form (by simp)
  obtain rfl : A1 = some ⟨g1, 0, none⟩ := by injection hv1
  have hcell1 : w1.cell? ⟨g1, 0, none⟩ = some (.int .i64 65279) := ho1.cells rfl 0 _ rfl
  clear hF0 hB0 hb1 ho1 hv1
  have k0 := hF1.cell 0
  have k1 := hF1.cell 1
  have z0 := hF1.frozen 0
  have z1 := hF1.frozen 1
  have hF9 := (hF1.set_ 0 (.int .i64 0)).set_ 1 (.int .i64 0)
  have d0 := hF9.cell 0
  have d1 := hF9.cell 1
  have hlt := Blk.lt hF1
  have hB9 := ((hB1.setCell (p := ⟨w.heap.size, 0, none⟩) (Nat.le_refl _) (.int .i64 0)).setCell (p := ⟨w.heap.size, 1, none⟩) (Nat.le_refl _) (.int .i64 0))
  have HR9 := Lib.hid (Reads.of_own (own_flt (b := w.heap.size) HO1.out (by omega)))
  have hcut := HR9.out.cut (k := 1) (cap := c1) (by simp) hc1
  by_cases hcap : c1 = 1
  · subst hcap
    have hr0 : rest = [] := by simpa using hc1
    subst hr0
    clear hcut
    go_wp2
    refine bodyPost_ret (v := .tuple #[.slice (some ⟨g1, 0, none⟩) 0 0, .bool big, .agg #[.int .i64 0, .int .i64 0]]) (by simp [results, Tryd.results19, go_sem] at d0 d1 ⊢; simp [d0, d1]) rfl ⟨_, _, rfl, Reads.none_, hB9⟩
  · rw [if_neg hcap] at hcut
    have HC := Lib.hid (show Reads _ _ 1 (some ⟨g1, 1, none⟩) rest.length (rest.map iv) by simpa [Addr.add] using hcut)
    clear hcut
    go_wp2
    refine bodyPost_ret (v := .tuple #[.slice (some ⟨g1, 1, none⟩) rest.length (c1 - 1), .bool big, .agg #[.int .i64 0, .int .i64 0]]) (by simp [results, Tryd.results19, go_sem] at d0 d1 ⊢; simp [d0, d1]) rfl ⟨_, _, rfl, HC.out.more (by simp), hB9⟩
set_option maxRecDepth 100000 in
set_option maxHeartbeats 2000000 in
theorem runits_turn_true (l : List UInt8) (w : World) (hl : l.length ≤ 100000) (rest0 rest : List Int) (he : l.length % 2 = 0) (hu : unt true l = 65534 :: rest0) (hu2 : unt false l = 65279 :: rest) :
    Calls Tryd.prog 19 #[.string ⟨l.toArray⟩, .bool true] w fun x w' => ∃ A' c', x = .returned (.tuple #[.slice A' rest.length c', .bool false, .agg #[.int .i64 0, .int .i64 0]]) ∧ Reads w' w'.heap.size 1 A' rest.length (rest.map iv) ∧ Below w.heap.size w w' := by
  have ho' : ((l.length : Int) % 2 == 1) = false := by simp; omega
  have HE := Lib.hid he
  clear he
  have hF0 := Blk.new w 26 #[.int .i64 0, .int .i64 0]
  have hB0 := below_new w (.cells #[.int .i64 0, .int .i64 0] 26)
  have HU1 := Lib.hid hu
  have HU2 := Lib.hid hu2
  clear hu hu2
  go_enter Tryd.func19, Tryd.ntmps19
  go_wp2_with fail
  refine (rreadH l (65534 :: rest0) true _ hl HU1.out).mono ?_
  rintro e w1 ⟨A1, c1, rfl, hc1, ho1, hb1⟩
  have HO1 := Lib.hid (own_base ho1 (base' := w.heap.size + 1) (by simp))
  have hF1 := hF0.stay hb1
  have hB1 := hB0.trans (hb1.mono hB0.size)
  obtain ⟨g1, q1, hv1, _, hg1⟩ := ho1.form (by simp)
  obtain rfl : A1 = some ⟨g1, 0, none⟩ := by injection hv1
  have hcell1 : w1.cell? ⟨g1, 0, none⟩ = some (.int .i64 65534) := ho1.cells rfl 0 _ rfl
  clear hF0 hB0 hb1 ho1 hv1
  go_wp2_with fail
  refine (rreadH l (65279 :: rest) false _ hl HU2.out).mono ?_
  rintro e w2 ⟨A2, c2, rfl, hc2, ho2, hb2⟩
  have HO2 := Lib.hid (own_base ho2 (base' := w.heap.size + 1) (Blk.lt hF1))
  have hF2 := hF1.stay hb2
  have hB2 := hB1.trans (hb2.mono hB1.size)
  obtain ⟨g2, q2, hv2, _, hg2⟩ := ho2.form (by simp)
  obtain rfl : A2 = some ⟨g2, 0, none⟩ := by injection hv2
  have hcell2 : w2.cell? ⟨g2, 0, none⟩ = some (.int .i64 65279) := ho2.cells rfl 0 _ rfl
  clear hF1 hB1 hb2 ho2 hv2
  have k0 := hF2.cell 0
  have k1 := hF2.cell 1
  have z0 := hF2.frozen 0
  have z1 := hF2.frozen 1
  have hF9 := (hF2.set_ 0 (.int .i64 0)).set_ 1 (.int .i64 0)
  have d0 := hF9.cell 0
  have d1 := hF9.cell 1
  have hlt := Blk.lt hF2
  have hB9 := ((hB2.setCell (p := ⟨w.heap.size, 0, none⟩) (Nat.le_refl _) (.int .i64 0)).setCell (p := ⟨w.heap.size, 1, none⟩) (Nat.le_refl _) (.int .i64 0))
  have HR9 := Lib.hid (Reads.of_own (own_flt (b := w.heap.size) HO2.out (by omega)))
  have hcut := HR9.out.cut (k := 1) (cap := c2) (by simp) hc2
  by_cases hcap : c2 = 1
  · subst hcap
    have hr0 : rest = [] := by simpa using hc2
    subst hr0
    clear hcut
    go_wp2
    refine bodyPost_ret (v := .tuple #[.slice (some ⟨g2, 0, none⟩) 0 0, .bool false, .agg #[.int .i64 0, .int .i64 0]]) (by simp [results, Tryd.results19, go_sem] at d0 d1 ⊢; simp [d0, d1]) rfl ⟨_, _, rfl, Reads.none_, hB9⟩
  · rw [if_neg hcap] at hcut
    have HC := Lib.hid (show Reads _ _ 1 (some ⟨g2, 1, none⟩) rest.length (rest.map iv) by simpa [Addr.add] using hcut)
    clear hcut
    go_wp2
    refine bodyPost_ret (v := .tuple #[.slice (some ⟨g2, 1, none⟩) rest.length (c2 - 1), .bool false, .agg #[.int .i64 0, .int .i64 0]]) (by simp [results, Tryd.results19, go_sem] at d0 d1 ⊢; simp [d0, d1]) rfl ⟨_, _, rfl, HC.out.more (by simp), hB9⟩
set_option maxRecDepth 100000 in
set_option maxHeartbeats 2000000 in
theorem runits_turn_false (l : List UInt8) (w : World) (hl : l.length ≤ 100000) (rest0 rest : List Int) (he : l.length % 2 = 0) (hu : unt false l = 65534 :: rest0) (hu2 : unt true l = 65279 :: rest) :
    Calls Tryd.prog 19 #[.string ⟨l.toArray⟩, .bool false] w fun x w' => ∃ A' c', x = .returned (.tuple #[.slice A' rest.length c', .bool true, .agg #[.int .i64 0, .int .i64 0]]) ∧ Reads w' w'.heap.size 1 A' rest.length (rest.map iv) ∧ Below w.heap.size w w' := by
  have ho' : ((l.length : Int) % 2 == 1) = false := by simp; omega
  have HE := Lib.hid he
  clear he
  have hF0 := Blk.new w 26 #[.int .i64 0, .int .i64 0]
  have hB0 := below_new w (.cells #[.int .i64 0, .int .i64 0] 26)
  have HU1 := Lib.hid hu
  have HU2 := Lib.hid hu2
  clear hu hu2
  go_enter Tryd.func19, Tryd.ntmps19
  go_wp2_with fail
  refine (rreadH l (65534 :: rest0) false _ hl HU1.out).mono ?_
  rintro e w1 ⟨A1, c1, rfl, hc1, ho1, hb1⟩
  have HO1 := Lib.hid (own_base ho1 (base' := w.heap.size + 1) (by simp))
  have hF1 := hF0.stay hb1
  have hB1 := hB0.trans (hb1.mono hB0.size)
  obtain ⟨g1, q1, hv1, _, hg1⟩ := ho1.form (by simp)
  obtain rfl : A1 = some ⟨g1, 0, none⟩ := by injection hv1
  have hcell1 : w1.cell? ⟨g1, 0, none⟩ = some (.int .i64 65534) := ho1.cells rfl 0 _ rfl
  clear hF0 hB0 hb1 ho1 hv1
  go_wp2_with fail
  refine (rreadH l (65279 :: rest) true _ hl HU2.out).mono ?_
  rintro e w2 ⟨A2, c2, rfl, hc2, ho2, hb2⟩
  have HO2 := Lib.hid (own_base ho2 (base' := w.heap.size + 1) (Blk.lt hF1))
  have hF2 := hF1.stay hb2
  have hB2 := hB1.trans (hb2.mono hB1.size)
  obtain ⟨g2, q2, hv2, _, hg2⟩ := ho2.form (by simp)
  obtain rfl : A2 = some ⟨g2, 0, none⟩ := by injection hv2
  have hcell2 : w2.cell? ⟨g2, 0, none⟩ = some (.int .i64 65279) := ho2.cells rfl 0 _ rfl
  clear hF1 hB1 hb2 ho2 hv2
  have k0 := hF2.cell 0
  have k1 := hF2.cell 1
  have z0 := hF2.frozen 0
  have z1 := hF2.frozen 1
  have hF9 := (hF2.set_ 0 (.int .i64 0)).set_ 1 (.int .i64 0)
  have d0 := hF9.cell 0
  have d1 := hF9.cell 1
  have hlt := Blk.lt hF2
  have hB9 := ((hB2.setCell (p := ⟨w.heap.size, 0, none⟩) (Nat.le_refl _) (.int .i64 0)).setCell (p := ⟨w.heap.size, 1, none⟩) (Nat.le_refl _) (.int .i64 0))
  have HR9 := Lib.hid (Reads.of_own (own_flt (b := w.heap.size) HO2.out (by omega)))
  have hcut := HR9.out.cut (k := 1) (cap := c2) (by simp) hc2
  by_cases hcap : c2 = 1
  · subst hcap
    have hr0 : rest = [] := by simpa using hc2
    subst hr0
    clear hcut
    go_wp2
    refine bodyPost_ret (v := .tuple #[.slice (some ⟨g2, 0, none⟩) 0 0, .bool true, .agg #[.int .i64 0, .int .i64 0]]) (by simp [results, Tryd.results19, go_sem] at d0 d1 ⊢; simp [d0, d1]) rfl ⟨_, _, rfl, Reads.none_, hB9⟩
  · rw [if_neg hcap] at hcut
    have HC := Lib.hid (show Reads _ _ 1 (some ⟨g2, 1, none⟩) rest.length (rest.map iv) by simpa [Addr.add] using hcut)
    clear hcut
    go_wp2
    refine bodyPost_ret (v := .tuple #[.slice (some ⟨g2, 1, none⟩) rest.length (c2 - 1), .bool true, .agg #[.int .i64 0, .int .i64 0]]) (by simp [results, Tryd.results19, go_sem] at d0 d1 ⊢; simp [d0, d1]) rfl ⟨_, _, rfl, HC.out.more (by simp), hB9⟩
theorem runitsH (l : List UInt8) (o : List Int) (big b : Bool) (e a : Int) (w : World) (hl : l.length ≤ 100000) (hR : untR l big = (o, b, e, a)) :
    Calls Tryd.prog 19 #[.string ⟨l.toArray⟩, .bool big] w fun x w' => ∃ A' c', x = .returned (.tuple #[.slice A' o.length c', .bool b, .agg #[.int .i64 e, .int .i64 a]]) ∧ Reads w' w'.heap.size 1 A' o.length (o.map iv) ∧ Below w.heap.size w w' := by
  by_cases hodd : l.length % 2 = 1
  · have he : untR l big = ([], false, 9, (l.length : Int) - 1) := by rw [untR, if_pos hodd]
    rw [he] at hR
    simp only [Prod.mk.injEq] at hR
    obtain ⟨rfl, rfl, rfl, rfl⟩ := hR
    exact runits_odd l big w hl hodd
  · rcases units_cases l big (by omega) with ⟨rfl, hu⟩ | ⟨h, rest, hh, ⟨h1, h2, hu⟩ | ⟨rfl, hu⟩ | ⟨rfl, rest', hh', hu⟩⟩
    · rw [hu] at hR
      simp only [Prod.mk.injEq] at hR
      obtain ⟨rfl, rfl, rfl, rfl⟩ := hR
      exact runits_nil [] big w hl rfl rfl
    · rw [hu] at hR
      simp only [Prod.mk.injEq] at hR
      obtain ⟨rfl, rfl, rfl, rfl⟩ := hR
      exact runits_plain l big w hl h rest (by omega) hh h1 h2
    · rw [hu] at hR
      simp only [Prod.mk.injEq] at hR
      obtain ⟨rfl, rfl, rfl, rfl⟩ := hR
      exact runits_mark l big w hl rest (by omega) hh
    · rw [hu] at hR
      simp only [Prod.mk.injEq] at hR
      obtain ⟨rfl, rfl, rfl, rfl⟩ := hR
      cases big with
      | true => exact runits_turn_true l w hl rest rest' (by omega) hh hh'
      | false => exact runits_turn_false l w hl rest rest' (by omega) hh hh'
end Go.Proofs.YtpkikgdcmhbehaaDoor
