/- The reference's Pair, Bytes, Read, Units of layer 4. -/
import Derived.Test.YtbcbmmgfdobdiaaDoorR16B
import Derived.Test.YtbcbmmgfdobdiaaDoorU16B
import Derived.Test.YtbcbmmgfdobdiaaDoorU16U
import Derived.Test.YtbcbmmgfdobdiaaDoorStay
import Derived.Test.YtbcbmmgfdobdiaaDoorR16E
import Derived.Test.YtbcbmmgfdobdiaaDoorStep
import Derived.Outline
namespace Go.Proofs.YtbcbmmgfdobdiaaDoor
open Go.RowKit

set_option maxRecDepth 100000 in
set_option maxHeartbeats 1000000 in
theorem rpair_any (u : Int) (big : Bool) (w : World) (hu0 : 0 ≤ u) (hu1 : u ≤ 65535) :
    Calls Tryd.prog 80 #[.int .i64 u, .bool big] w fun e w' => e = .returned (.string ⟨(pairB u big).toArray⟩) ∧ Below w.heap.size w w' := by
  obtain ⟨x, rfl⟩ := Int.eq_ofNat_of_zero_le hu0
  have ha : x / 256 < 256 := by omega
  have hb : x % 256 < 256 := by omega
  cases big with
  | true =>
    have hcv := conv_new (P := Tryd.prog) w Tryd.underlying92 Tryd.underlying5 Tryd.underlying9 #[.int .u8 ((x : Int) / 256), .int .u8 ((x : Int) % 256)] (pairB (x : Int) true) (by
      simp only [pairB, if_true, List.map_cons, List.map_nil, Int.toNat_natCast]
      rw [bv_ofNat _ (by omega), bv_ofNat _ (by omega)]; rfl) 2 (pair_len _ _)
    generalize pairB (x : Int) true = s at hcv ⊢
    go_enter Tryd.func80, Tryd.ntmps80
    go_wp2
    go_ret
    exact ⟨rfl, (Below.refl _ _).alloc (Nat.le_refl _) _⟩
  | false =>
    have hcv := conv_new (P := Tryd.prog) w Tryd.underlying92 Tryd.underlying5 Tryd.underlying9 #[.int .u8 ((x : Int) % 256), .int .u8 ((x : Int) / 256)] (pairB (x : Int) false) (by
      simp only [pairB, Bool.false_eq_true, if_false, List.map_cons, List.map_nil, Int.toNat_natCast]
      rw [bv_ofNat _ (by omega), bv_ofNat _ (by omega)]; rfl) 2 (pair_len _ _)
    generalize pairB (x : Int) false = s at hcv ⊢
    go_enter Tryd.func80, Tryd.ntmps80
    go_wp2
    go_ret
    exact ⟨rfl, (Below.refl _ _).alloc (Nat.le_refl _) _⟩

def RBytRel (w : World) (l : List Int) (big mark : Bool) (s i : Value) (wr : World) : Prop :=
  ∃ (k : Nat) (out : List UInt8), k ≤ l.length ∧ i = .int .i64 (k : Int) ∧ s = .string ⟨out.toArray⟩ ∧ out.length ≤ 2 * k + 2 ∧ preB (markB big mark) (byt16 big 0 l) = preB out (byt16 big k (l.drop k)) ∧
    fltB wr w.heap.size 0 0 ∧ Below w.heap.size w wr

set_option maxRecDepth 100000 in
set_option maxHeartbeats 2000000 in
theorem rbytes_any (n cap : Nat) (A : Option Addr) (l : List Int) (big mark : Bool) (w : World) (h : Reads w w.heap.size 1 A n (l.map iv)) (hn : n ≤ 100000) :
    Calls Tryd.prog 54 #[.slice A n cap, .bool big, .bool mark] w fun e w' => e = .returned (.tuple #[.string ⟨(bytR l big mark).1.toArray⟩, .agg #[.int .i64 (bytR l big mark).2.1, .int .i64 (bytR l big mark).2.2]]) ∧ Below w.heap.size w w' := by
  have hl := len_of h
  have Hl := Lib.hid hl
  clear hl
  have hF0 := Blk.new w 37 #[.int .i64 0, .int .i64 0]
  have hB0 := below_new w (.cells #[.int .i64 0, .int .i64 0] 37)
  have main : ∀ (s0 : List UInt8) (W : World), s0 = markB big mark → fltB W w.heap.size 0 0 → Below w.heap.size w W → RBytRel w l big mark (.string ⟨s0.toArray⟩) (.int .i64 0) W := by
    intro s0 W e hF hB
    exact ⟨0, s0, by omega, rfl, rfl, by rw [e, markB]; split <;> simp [pair_len], by rw [e]; rfl, hF, hB⟩
  have Main := Lib.hid main
  clear main
  go_enter Tryd.func54, Tryd.ntmps54
  cases mark with
  | false =>
    go_wp2_with fail
    have h0 := Lib.hid (Main.out [] _ rfl hF0 hB0)
    go_loopw [8, 9] (fun s i wr => RBytRel w l big false s i wr) (fun _ i _ => n - (intOf i).toNat)
    case atStart => exact h0.out
    case round =>
      obtain ⟨k, out, hk, rfl, rfl, hol, he, hF, hb⟩ := hrel
      rw [Hl.out] at hk
      have Hee := Lib.hid he
      clear he
      by_cases hlt : k < n
      · obtain ⟨ad, uu, rfl, hadB, hu, hcell⟩ := (h.below hb).at_ hlt
        obtain ⟨u, hc, rfl⟩ := iv_at hu
        have Hdr := Lib.hid (drop_at hc)
        have hkl : k < l.length := by rw [Hl.out]; exact hlt
        clear hu hc
        by_cases hur : 0 ≤ u ∧ u ≤ 65535
        · have Hst := Lib.hid (show byt16 big k (l.drop k) = preB (pairB u big) (byt16 big (k + 1) (l.drop (k + 1))) by rw [Hdr.out, byt16, if_pos hur])
          obtain ⟨hu0, hu1⟩ := hur
          have hu0' : ¬ u < 0 := by omega
          have hu1' : ¬ 65535 < u := by omega
          have hpl := pair_len u big
          have HF := Lib.hid hF
          clear hF
          go_wp2_with fail
          refine (rpair_any u big wr hu0 hu1).mono ?_
          rintro e w3 ⟨rfl, hb3⟩
          generalize hX : pairB u big = X at hpl
          have HX := Lib.hid hX
          have hXl : X.length ≤ 2 := by omega
          have Hpl := Lib.hid hpl
          clear hX hpl
          have eA : (⟨out.toArray⟩ : ByteArray) ++ ⟨X.toArray⟩ = ⟨(out ++ X).toArray⟩ := ByteArray.mk_append_mk out X
          obtain ⟨S, hS⟩ : ∃ S, S = out ++ X := ⟨_, rfl⟩
          rw [← hS] at eA
          have hSl : S.length ≤ 300000 := by rw [hS, List.length_append, Hpl.out]; omega
          have HS := Lib.hid hS
          clear hS
          have HB := Lib.hid (hb.trans (hb3.mono hb.size))
          have HF3 := Lib.hid (Blk.stay HF.out hb3)
          clear hb3 hb
          go_wp2
          go_roundw
          case rel => exact ⟨k + 1, S, by omega, by go_num, rfl, by rw [HS.out, List.length_append, Hpl.out]; omega, by rw [Hee.out, Hst.out, preB_preB, HX.out, HS.out], HF3.out, HB.out⟩
          case measure => simp [intOf]; omega
        · have Herr := Lib.hid (show bytR l big false = ([], 1, (k : Int)) by rw [bytR, Hee.out, Hdr.out, byt16, if_neg hur]; rfl)
          have c0 := hF.cell 0
          have c1 := hF.cell 1
          have f0 := hF.frozen 0
          have f1 := hF.frozen 1
          have hF2 := (hF.set_ 0 (.int .i64 1)).set_ 1 (.int .i64 (k : Int))
          have d0 := hF2.cell 0
          have d1 := hF2.cell 1
          by_cases hu0 : u < 0
          · clear hur
            go_wp2
            refine bodyPost_ret (v := .tuple #[.string ⟨#[]⟩, .agg #[.int .i64 1, .int .i64 (k : Int)]]) (by simp [results, Tryd.results54, go_sem] at d0 d1 ⊢; simp [d0, d1]) rfl ⟨by rw [Herr.out], ?_⟩
            exact (hb.setCell (by simp) _).setCell (by simp) _
          · have hu1 : 65535 < u := by omega
            clear hur
            go_wp2
            refine bodyPost_ret (v := .tuple #[.string ⟨#[]⟩, .agg #[.int .i64 1, .int .i64 (k : Int)]]) (by simp [results, Tryd.results54, go_sem] at d0 d1 ⊢; simp [d0, d1]) rfl ⟨by rw [Herr.out], ?_⟩
            exact (hb.setCell (by simp) _).setCell (by simp) _
      · have Hok := Lib.hid (show bytR l big false = (out, 0, 0) by
          rw [bytR, Hee.out, List.drop_of_length_le (by rw [Hl.out]; omega), byt16]; simp [preB, outB])
        have c0 := hF.cell 0
        have c1 := hF.cell 1
        have f0 := hF.frozen 0
        have f1 := hF.frozen 1
        have hF2 := (hF.set_ 0 (.int .i64 0)).set_ 1 (.int .i64 0)
        have d0 := hF2.cell 0
        have d1 := hF2.cell 1
        go_wp2
        refine bodyPost_ret (v := .tuple #[.string ⟨out.toArray⟩, .agg #[.int .i64 0, .int .i64 0]]) (by simp [results, Tryd.results54, go_sem] at d0 d1 ⊢; simp [d0, d1]) rfl ⟨by rw [Hok.out], ?_⟩
        exact (hb.setCell (by simp) _).setCell (by simp) _
  | true =>
    go_wp2_with fail
    refine (rpair_any 65279 big _ (by omega) (by omega)).mono ?_
    rintro e w1 ⟨rfl, hb1⟩
    have hF1 := hF0.stay hb1
    have hB1 := hB0.trans (hb1.mono hB0.size)
    have h0 := Lib.hid (Main.out (pairB 65279 big) _ rfl hF1 hB1)
    clear hF0 hB0 hb1 hF1 hB1
    go_wp2_with fail
    go_loopw [8, 9] (fun s i wr => RBytRel w l big true s i wr) (fun _ i _ => n - (intOf i).toNat)
    case atStart => exact h0.out
    case round =>
      obtain ⟨k, out, hk, rfl, rfl, hol, he, hF, hb⟩ := hrel
      rw [Hl.out] at hk
      have Hee := Lib.hid he
      clear he
      by_cases hlt : k < n
      · obtain ⟨ad, uu, rfl, hadB, hu, hcell⟩ := (h.below hb).at_ hlt
        obtain ⟨u, hc, rfl⟩ := iv_at hu
        have Hdr := Lib.hid (drop_at hc)
        have hkl : k < l.length := by rw [Hl.out]; exact hlt
        clear hu hc
        by_cases hur : 0 ≤ u ∧ u ≤ 65535
        · have Hst := Lib.hid (show byt16 big k (l.drop k) = preB (pairB u big) (byt16 big (k + 1) (l.drop (k + 1))) by rw [Hdr.out, byt16, if_pos hur])
          obtain ⟨hu0, hu1⟩ := hur
          have hu0' : ¬ u < 0 := by omega
          have hu1' : ¬ 65535 < u := by omega
          have hpl := pair_len u big
          have HF := Lib.hid hF
          clear hF
          go_wp2_with fail
          refine (rpair_any u big wr hu0 hu1).mono ?_
          rintro e w3 ⟨rfl, hb3⟩
          generalize hX : pairB u big = X at hpl
          have HX := Lib.hid hX
          have hXl : X.length ≤ 2 := by omega
          have Hpl := Lib.hid hpl
          clear hX hpl
          have eA : (⟨out.toArray⟩ : ByteArray) ++ ⟨X.toArray⟩ = ⟨(out ++ X).toArray⟩ := ByteArray.mk_append_mk out X
          obtain ⟨S, hS⟩ : ∃ S, S = out ++ X := ⟨_, rfl⟩
          rw [← hS] at eA
          have hSl : S.length ≤ 300000 := by rw [hS, List.length_append, Hpl.out]; omega
          have HS := Lib.hid hS
          clear hS
          have HB := Lib.hid (hb.trans (hb3.mono hb.size))
          have HF3 := Lib.hid (Blk.stay HF.out hb3)
          clear hb3 hb
          go_wp2
          go_roundw
          case rel => exact ⟨k + 1, S, by omega, by go_num, rfl, by rw [HS.out, List.length_append, Hpl.out]; omega, by rw [Hee.out, Hst.out, preB_preB, HX.out, HS.out], HF3.out, HB.out⟩
          case measure => simp [intOf]; omega
        · have Herr := Lib.hid (show bytR l big true = ([], 1, (k : Int)) by rw [bytR, Hee.out, Hdr.out, byt16, if_neg hur]; rfl)
          have c0 := hF.cell 0
          have c1 := hF.cell 1
          have f0 := hF.frozen 0
          have f1 := hF.frozen 1
          have hF2 := (hF.set_ 0 (.int .i64 1)).set_ 1 (.int .i64 (k : Int))
          have d0 := hF2.cell 0
          have d1 := hF2.cell 1
          by_cases hu0 : u < 0
          · clear hur
            go_wp2
            refine bodyPost_ret (v := .tuple #[.string ⟨#[]⟩, .agg #[.int .i64 1, .int .i64 (k : Int)]]) (by simp [results, Tryd.results54, go_sem] at d0 d1 ⊢; simp [d0, d1]) rfl ⟨by rw [Herr.out], ?_⟩
            exact (hb.setCell (by simp) _).setCell (by simp) _
          · have hu1 : 65535 < u := by omega
            clear hur
            go_wp2
            refine bodyPost_ret (v := .tuple #[.string ⟨#[]⟩, .agg #[.int .i64 1, .int .i64 (k : Int)]]) (by simp [results, Tryd.results54, go_sem] at d0 d1 ⊢; simp [d0, d1]) rfl ⟨by rw [Herr.out], ?_⟩
            exact (hb.setCell (by simp) _).setCell (by simp) _
      · have Hok := Lib.hid (show bytR l big true = (out, 0, 0) by
          rw [bytR, Hee.out, List.drop_of_length_le (by rw [Hl.out]; omega), byt16]; simp [preB, outB])
        have c0 := hF.cell 0
        have c1 := hF.cell 1
        have f0 := hF.frozen 0
        have f1 := hF.frozen 1
        have hF2 := (hF.set_ 0 (.int .i64 0)).set_ 1 (.int .i64 0)
        have d0 := hF2.cell 0
        have d1 := hF2.cell 1
        go_wp2
        refine bodyPost_ret (v := .tuple #[.string ⟨out.toArray⟩, .agg #[.int .i64 0, .int .i64 0]]) (by simp [results, Tryd.results54, go_sem] at d0 d1 ⊢; simp [d0, d1]) rfl ⟨by rw [Hok.out], ?_⟩
        exact (hb.setCell (by simp) _).setCell (by simp) _

/-- the units of bytes, as the reference reads them -/
def RdRel (w : World) (m : List UInt8) (big : Bool) (v i : Value) (wr : World) : Prop :=
  ∃ (j : Nat) (out : List Int), j ≤ m.length ∧ i = .int .i64 (j : Int) ∧ Hid (j = 2 * out.length) ∧ Hid (unt big m = out ++ unt big (m.drop j)) ∧
    wr.ownsRow w.heap.size 3 1 v out.length (out.map iv) ∧ Below w.heap.size w wr
theorem unt_short (big : Bool) (m : List UInt8) (h : m.length ≤ 1) : unt big m = [] := by
  match m, h with
  | [], _ => rfl
  | [_], _ => rfl

set_option maxRecDepth 100000 in
set_option maxHeartbeats 2000000 in
theorem rread_any (m : List UInt8) (big : Bool) (w : World) (hl : m.length ≤ 100000) :
    Calls Tryd.prog 88 #[.string ⟨m.toArray⟩, .bool big] w fun e w' => ∃ v, e = .returned v ∧ w'.ownsRow w.heap.size 3 1 v (unt big m).length ((unt big m).map iv) ∧ Below w.heap.size w w' := by
  obtain ⟨i0, hi, hz0, hz1, hz2⟩ := info_parts Tryd.info3
  go_enter Tryd.func88, Tryd.ntmps88
  go_wp2
  go_loopw [5, 6] (fun v i wr => RdRel w m big v i wr) (fun _ i _ => m.length - (intOf i).toNat)
  case atStart => exact ⟨0, [], by omega, rfl, rfl, rfl, World.ownsRow_nil _ _ _ _, Below.refl _ _⟩
  case round =>
    obtain ⟨j, out, hj, rfl, hout, he, ho, hb⟩ := hrel
    have hol : out.length ≤ 100000 := by have := hout.out; omega
    by_cases hlt : j + 1 < m.length
    · obtain ⟨x, hx, hx2, hx256⟩ := byte_at (s := m) (k := j) (by omega)
      obtain ⟨y, hy, hy2, hy256⟩ := byte_at hlt
      have Hx := Lib.hid hx2
      have Hy := Lib.hid hy2
      have hb1 : (j : Int) < (m.length : Int) := by omega
      have hb2 : (j : Int) + 1 < (m.length : Int) := by omega
      clear hx2 hy2
      cases big with
      | true =>
        have Hst := Lib.hid (show unt true (m.drop j) = ((256 * x + y : Nat) : Int) :: unt true (m.drop (j + 2)) by rw [drop_two hlt, unt, Hx.out, Hy.out]; rfl)
        go_wp2
        have q1 : IntKind.i64.wrap ((j : Int) + 1) = (j : Int) + 1 := IntWalk.i64_in _ (by omega)
        have q2 : 0 ≤ (j : Int) + 1 := by omega
        have q3 : ((j : Int) + 1).toNat = j + 1 := by omega
        have q5 : IntKind.i64.wrap (IntKind.i64.wrap (256 * IntKind.i64.wrap (x : Int)) + IntKind.i64.wrap (y : Int)) = ((256 * x + y : Nat) : Int) := by
          rw [IntWalk.i64_in (x : Int) (by omega), IntWalk.i64_in (y : Int) (by omega), IntWalk.i64_in (256 * (x : Int)) (by omega), IntWalk.i64_in _ (by omega)]; omega
        have Q5 := Lib.hid q5
        clear q5
        have hbz := hb.size
        generalize 256 * x + y = z at Hst Q5
        go_region_held3 (fun _ => True) (trivial) ((refine step_app1 (by rfl) (.tmp 15) (.tmp 27) 22 (by rfl) Tryd.underlying22 hi hz0 hz1 hz2 rfl (by omega) u5 out.length (out.map iv) (by rfl) ((ho.alloc _).drew) (.int .i64 (z : Int)) ⟨wr.heap.size, 0, none⟩ (by rfl) (by simp; exact Q5.out) (by rfl) (by omega) (by simp; omega) ?_; intro v3 w3 ho3 hB3 _))
        all_goals
          clear q1 q2 q3
          have HB := Lib.hid (hb.trans (((((Below.refl _ _).alloc hbz _).drew).trans hB3)))
          clear hB3
          go_wp2
          go_roundw
          case rel => exact ⟨j + 2, out ++ [(z : Int)], by omega, by go_num, by show j + 2 = 2 * (out ++ [(z : Int)]).length; have := hout.out; simp; omega, by show unt true m = _; rw [he.out, Hst.out]; simp, by simpa [iv] using ho3, HB.out⟩
          case measure => simp [intOf]; omega
      | false =>
        have Hst := Lib.hid (show unt false (m.drop j) = ((256 * y + x : Nat) : Int) :: unt false (m.drop (j + 2)) by rw [drop_two hlt, unt, Hx.out, Hy.out]; rfl)
        go_wp2
        have q1 : IntKind.i64.wrap ((j : Int) + 1) = (j : Int) + 1 := IntWalk.i64_in _ (by omega)
        have q2 : 0 ≤ (j : Int) + 1 := by omega
        have q3 : ((j : Int) + 1).toNat = j + 1 := by omega
        have q5 : IntKind.i64.wrap (IntKind.i64.wrap (256 * IntKind.i64.wrap (y : Int)) + IntKind.i64.wrap (x : Int)) = ((256 * y + x : Nat) : Int) := by
          rw [IntWalk.i64_in (y : Int) (by omega), IntWalk.i64_in (x : Int) (by omega), IntWalk.i64_in (256 * (y : Int)) (by omega), IntWalk.i64_in _ (by omega)]; omega
        have Q5 := Lib.hid q5
        clear q5
        have hbz := hb.size
        generalize 256 * y + x = z at Hst Q5
        go_region_held3 (fun _ => True) (trivial) ((refine step_app1 (by rfl) (.tmp 29) (.tmp 41) 22 (by rfl) Tryd.underlying22 hi hz0 hz1 hz2 rfl (by omega) u5 out.length (out.map iv) (by rfl) ((ho.alloc _).drew) (.int .i64 (z : Int)) ⟨wr.heap.size, 0, none⟩ (by rfl) (by simp; exact Q5.out) (by rfl) (by omega) (by simp; omega) ?_; intro v3 w3 ho3 hB3 _))
        all_goals
          clear q1 q2 q3
          have HB := Lib.hid (hb.trans (((((Below.refl _ _).alloc hbz _).drew).trans hB3)))
          clear hB3
          go_wp2
          go_roundw
          case rel => exact ⟨j + 2, out ++ [(z : Int)], by omega, by go_num, by show j + 2 = 2 * (out ++ [(z : Int)]).length; have := hout.out; simp; omega, by show unt false m = _; rw [he.out, Hst.out]; simp, by simpa [iv] using ho3, HB.out⟩
          case measure => simp [intOf]; omega
    · have Hfin := Lib.hid (show unt big m = out by rw [he.out, unt_short big _ (by rw [List.length_drop]; omega), List.append_nil])
      have hnlt : ¬ (j : Int) + 1 < (m.length : Int) := by omega
      go_wp2
      go_ret
      exact ⟨u5, rfl, by rw [Hfin.out]; exact ho, hb⟩

theorem rreadH (m : List UInt8) (o : List Int) (big : Bool) (w : World) (hl : m.length ≤ 100000) (hR : unt big m = o) :
    Calls Tryd.prog 88 #[.string ⟨m.toArray⟩, .bool big] w fun x w' => ∃ A c, x = .returned (.slice A o.length c) ∧ o.length ≤ c ∧ w'.ownsRow w.heap.size 3 1 (.slice A o.length c) o.length (o.map iv) ∧ Below w.heap.size w w' :=
  (rread_any m big w hl).mono fun x w' ⟨v, h1, h2, h3⟩ => by
    rw [hR] at h2
    obtain ⟨A, c, rfl, hc, hr⟩ := val_of_own h2
    exact ⟨A, c, h1, hc, h2, h3⟩
/-- a fault of zeros is written; the row stays -/
theorem own_flt {w1 : World} {b B n : Nat} {v : Value} {xs : List Value} (h : w1.ownsRow B 3 1 v n xs) (hb : b < B) : ((w1.setCell ⟨b, 0, none⟩ (.int .i64 0)).setCell ⟨b, 1, none⟩ (.int .i64 0)).ownsRow B 3 1 v n xs :=
  ownsRow_setCell_below (ownsRow_setCell_below h hb _) hb _
theorem addr_add0 (ad : Addr) : ad.add 0 = ad := by unfold Addr.add; simp

theorem units_cases (l : List UInt8) (big : Bool) (he : l.length % 2 = 0) : (l = [] ∧ untR l big = ([], big, 0, 0)) ∨
    ∃ h rest, unt big l = h :: rest ∧ ((h ≠ 65534 ∧ h ≠ 65279 ∧ untR l big = (h :: rest, big, 0, 0)) ∨ (h = 65279 ∧ untR l big = (rest, big, 0, 0)) ∨
      (h = 65534 ∧ ∃ rest', unt (!big) l = 65279 :: rest' ∧ untR l big = (rest', !big, 0, 0))) := by
  match l, he with
  | [], _ => left; exact ⟨rfl, rfl⟩
  | [a], he => simp at he
  | a :: b :: t, he =>
    right
    have ha := a.toNat_lt
    have hb := b.toNat_lt
    have hu : untR (a :: b :: t) big = (unt (bom (a :: b :: t) big).2 (bom (a :: b :: t) big).1, (bom (a :: b :: t) big).2, 0, 0) := by rw [untR, if_neg (by omega)]
    refine ⟨_, _, rfl, ?_⟩
    have e1 : (254 : UInt8).toNat = 254 := rfl
    have e2 : (255 : UInt8).toNat = 255 := rfl
    by_cases hbe : a = 254 ∧ b = 255
    · have hm : bom (a :: b :: t) big = (t, true) := by rw [bom_of rfl, if_pos hbe]
      rw [hm] at hu
      obtain ⟨rfl, rfl⟩ := hbe
      cases big with
      | true => right; left; exact ⟨rfl, hu⟩
      | false => right; right; exact ⟨rfl, unt true t, rfl, hu⟩
    · by_cases hle : a = 255 ∧ b = 254
      · have hm : bom (a :: b :: t) big = (t, false) := by rw [bom_of rfl, if_neg hbe, if_pos hle]
        rw [hm] at hu
        obtain ⟨rfl, rfl⟩ := hle
        cases big with
        | true => right; right; exact ⟨rfl, unt false t, rfl, hu⟩
        | false => right; left; exact ⟨rfl, hu⟩
      · have hm : bom (a :: b :: t) big = (a :: b :: t, big) := by rw [bom_of rfl, if_neg hbe, if_neg hle]
        rw [hm] at hu
        left
        simp only [toNat_eq, e1, e2] at hbe hle
        refine ⟨?_, ?_, hu⟩
        · cases big <;> simp <;> omega
        · cases big <;> simp <;> omega

end Go.Proofs.YtbcbmmgfdobdiaaDoor
