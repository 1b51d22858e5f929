/- utf16text.Units. -/
import Derived.Test.YtpkikgdcmhbehaaDoorU16D
namespace Go.Proofs.YtpkikgdcmhbehaaDoor
open Go.RowKit

theorem ofInt_i64 (a : Nat) (ha : a < 9223372036854775808) : (BitVec.ofInt 64 (a : Int)).toNat = a := by
  rw [BitVec.ofInt_natCast, BitVec.toNat_ofNat]; exact Nat.mod_eq_of_lt (by omega)
theorem or256 (a b : Nat) (ha : a < 256) (hb : b < 256) : bits .or .i64 ((a : Int) * 256) (b : Int) = ((256 * a + b : Nat) : Int) := by
  have e : ((a : Int) * 256) = ((a * 256 : Nat) : Int) := by omega
  rw [e]
  show IntKind.i64.wrap ((BitVec.ofInt 64 ((a * 256 : Nat) : Int) ||| BitVec.ofInt 64 (b : Int)).toNat : Int) = _
  rw [BitVec.toNat_or, ofInt_i64 _ (by omega), ofInt_i64 _ (by omega), IntKind.wrap_i64]
  have h := Nat.two_pow_add_eq_or_of_lt (i := 8) (b := b) (by omega) a
  have e2 : a * 256 = 2 ^ 8 * a := by omega
  rw [e2, ← h]
  omega
theorem eq2u8 (a b c d : Int) (w : World) : (binOp .eql 52 (.agg #[.int .u8 a, .int .u8 b]) (.agg #[.int .u8 c, .int .u8 d])).run Tryd.prog w = .ok (.bool (a == c && b == d)) w := by
  rw [run_eql_struct, run_equalIn_arr2 w 9999 52 5 .u8 a b c d Tryd.underlying52 Tryd.sizeOf5 Tryd.isAgg5 (fun x y w => run_equalIn_int w 9998 5 .u8 .u8 x y Tryd.underlying5)]
  rfl
theorem eqg8 (x y : Operand) (xs ys : Array Value) (w : World) : (eqGuard .eql 52 x y (.agg xs) (.agg ys)).run Tryd.prog w = .ok () w :=
  run_eqGuard_agg w .eql 52 x y xs ys (by kernel_rfl)

theorem toNat_eq (a b : UInt8) : (a = b) = (a.toNat = b.toNat) := propext UInt8.toNat_inj.symm
def unt (big : Bool) : List UInt8 → List Int
  | a :: b :: t => ((if big = true then 256 * a.toNat + b.toNat else 256 * b.toNat + a.toNat : Nat) : Int) :: unt big t
  | _ => []
/-- the bytes behind a mark, and the order -/
def bom (s : List UInt8) (big : Bool) : List UInt8 × Bool :=
  match s with
  | a :: b :: t => if a = 254 ∧ b = 255 then (t, true) else if a = 255 ∧ b = 254 then (t, false) else (s, big)
  | _ => (s, big)
theorem bom_of {l t : List UInt8} {a b : UInt8} {big : Bool} (h : l = a :: b :: t) : bom l big = if a = 254 ∧ b = 255 then (t, true) else if a = 255 ∧ b = 254 then (t, false) else (l, big) := by subst h; rfl
def untR (s : List UInt8) (big : Bool) : List Int × Bool × Int × Int :=
  if s.length % 2 = 1 then ([], false, 9, (s.length : Int) - 1) else (unt (bom s big).2 (bom s big).1, (bom s big).2, 0, 0)

theorem drop_two {s : List UInt8} {k : Nat} (h : k + 1 < s.length) : s.drop k = s[k] :: s[k + 1] :: s.drop (k + 2) := by
  rw [List.drop_eq_getElem_cons (by omega), List.drop_eq_getElem_cons h]
theorem byte_at {s : List UInt8} {k : Nat} (h : k < s.length) : ∃ x, (⟨s.toArray⟩ : ByteArray)[k].toNat = x ∧ s[k].toNat = x ∧ x < 256 := ⟨_, rfl, rfl, s[k].toNat_lt⟩

def UntRel (w : World) (m : List UInt8) (big : Bool) (v i : Value) (wr : World) : Prop :=
  ∃ (j : Nat) (out : List Int), j ≤ m.length ∧ i = .int .i64 (j : Int) ∧ Hid (j = 2 * out.length) ∧ Hid (unt big m = out ++ unt big (m.drop j)) ∧
    wr.ownsRow (w.heap.size + 1) 3 1 v out.length (out.map iv) ∧ fltB wr w.heap.size 0 0 ∧ Below w.heap.size w wr

set_option maxRecDepth 100000 in
set_option maxHeartbeats 4000000 in
theorem units_any (l : List UInt8) (big : Bool) (w : World) (hl : l.length ≤ 100000) :
    Calls Tryd.prog 18 #[.string ⟨l.toArray⟩, .bool big] w fun e w' => ∃ v, e = .returned (.tuple #[v, .bool (untR l big).2.1, .agg #[.int .i64 (untR l big).2.2.1, .int .i64 (untR l big).2.2.2]]) ∧
      w'.ownsRow (w.heap.size + 1) 3 1 v (untR l big).1.length ((untR l big).1.map iv) ∧ Below w.heap.size w w' := by
  obtain ⟨i0, hi, hz0, hz1, hz2⟩ := info_parts Tryd.info3
  by_cases hodd : l.length % 2 = 1
  · have He := Lib.hid (show untR l big = ([], false, 9, (l.length : Int) - 1) by rw [untR, if_pos hodd])
    have ho' : ((l.length : Int) % 2 != 0) = true := by simp; omega
    have hl1 : 1 ≤ l.length := by omega
    have Hod := Lib.hid hodd
    clear hodd
    go_enter Tryd.func18, Tryd.ntmps18
    go_wp2
    refine bodyPost_ret (v := .tuple #[.slice none 0 0, .bool false, .agg #[.int .i64 9, .int .i64 ((l.length : Int) - 1)]]) (by simp [results, Tryd.results18, go_sem]) rfl ⟨_, by rw [He.out], by rw [He.out]; exact World.ownsRow_nil _ _ _ _, ?_⟩
    exact (Below.refl _ _).alloc (Nat.le_refl _) _
  have ho' : ((l.length : Int) % 2 != 0) = false := by simp; omega
  have He := Lib.hid (show untR l big = (unt (bom l big).2 (bom l big).1, (bom l big).2, 0, 0) by rw [untR, if_neg hodd])
  have hbl : fltB (w.alloc (.cells #[.int .i64 0, .int .i64 0] 26)) w.heap.size 0 0 := Blk.new _ _ _
  have hblB : Below w.heap.size w (w.alloc (.cells #[.int .i64 0, .int .i64 0] 26)) := (Below.refl _ _).alloc (Nat.le_refl _) _
  by_cases h0 : l.length = 0
  · have hl0 : l = [] := List.eq_nil_of_length_eq_zero h0
    have Hbom := Lib.hid (show bom l big = (l, big) by rw [hl0]; rfl)
    have h0' : ¬ (0 : Int) < (l.length : Int) := by omega
    have Hme := Lib.hid (show l.length % 2 = 0 by omega)
    clear hl0 hodd
    go_enter Tryd.func18, Tryd.ntmps18
    go_wp2
    go_loopw [7, 8] (fun v i wr => UntRel w l big v i wr) (fun _ i _ => l.length - (intOf i).toNat)
    case atStart => exact ⟨0, [], by omega, rfl, rfl, rfl, World.ownsRow_nil _ _ _ _, hbl, hblB⟩
    case round =>
      obtain ⟨j, out, hj, rfl, hout, he, ho, hF, hb⟩ := hrel
      have Hee := he
      have HF := Lib.hid hF
      have hsz : w.heap.size + 1 ≤ wr.heap.size := Blk.lt hF
      have hol : out.length ≤ 100000 := by have := hout.out; omega
      by_cases hlt : j + 1 < l.length
      · obtain ⟨x, hx, hx2, hx256⟩ := byte_at (s := l) (k := j) (by omega)
        obtain ⟨y, hy, hy2, hy256⟩ := byte_at hlt
        have Hx := Lib.hid hx2
        have Hy := Lib.hid hy2
        have hb1 : (j : Int) < (l.length : Int) := by omega
        have hb2 : (j : Int) + 1 < (l.length : Int) := by omega
        clear hx2 hy2
        exact absurd hlt (by omega)
      · have hend : j = l.length := by have := hout.out; have := Hme.out; omega
        have Hfin := Lib.hid (show unt big l = out by rw [Hee.out, hend, List.drop_length]; simp [unt])
        have Hj := Lib.hid hend
        have hnlt : ¬ (j : Int) < (l.length : Int) := by omega
        clear hend
        have c0 := hF.cell 0
        have c1 := hF.cell 1
        have f0 := hF.frozen 0
        have f1 := hF.frozen 1
        have hF2 := (hF.set_ 0 (.int .i64 0)).set_ 1 (.int .i64 0)
        have d0 := hF2.cell 0
        have d1 := hF2.cell 1
        obtain ⟨A1, c2, rfl, _, hr1⟩ := val_of_own ho
        go_wp2
        have Hu := Lib.hid (show untR l big = (out, big, 0, 0) by rw [He.out, Hbom.out]; simp only; rw [Hfin.out])
        refine bodyPost_ret (v := .tuple #[.slice A1 out.length c2, .bool big, .agg #[.int .i64 0, .int .i64 0]]) (by simp [results, Tryd.results18, go_sem] at d0 d1 ⊢; simp [d0, d1]) rfl ⟨_, by rw [Hu.out], ?_, ?_⟩
        · rw [Hu.out]
          exact ownsRow_setCell_below (ownsRow_setCell_below ho (by simp) _) (by simp) _
        · exact (hb.setCell (Nat.le_refl _) _).setCell (Nat.le_refl _) _
  · have h2 : 2 ≤ l.length := by omega
    have h0' : (0 : Int) < (l.length : Int) := by omega
    have h1' : (1 : Int) < (l.length : Int) := by omega
    have h0d : decide (0 < l.length) = true := by simp; omega
    obtain ⟨x0, hx0, hx02, hx0256⟩ := byte_at (s := l) (k := 0) (by omega)
    obtain ⟨y0, hy0, hy02, hy0256⟩ := byte_at (s := l) (k := 1) (by omega)
    have Hx0 := Lib.hid hx02
    have Hy0 := Lib.hid hy02
    have Hl2 := Lib.hid (show l = l[0] :: l[1] :: l.drop 2 by have := drop_two (s := l) (k := 0) (by omega); simpa using this)
    have heg := eqg8
    clear hx02 hy02
    by_cases hbe : l[0] = 254 ∧ l[1] = 255
    · have Hbom := Lib.hid (show bom l big = (l.drop 2, true) by rw [bom_of Hl2.out, if_pos hbe])
      have e1 : x0 = 254 := by have := hbe.1; simp only [toNat_eq, Hx0.out] at this; exact this
      have e2 : y0 = 255 := by have := hbe.2; simp only [toNat_eq, Hy0.out] at this; exact this
      subst e1 e2
      have q1 := eq2u8 254 255 254 255
      simp only [BEq.rfl, Bool.and_self] at q1
      have hext : (⟨l.toArray⟩ : ByteArray).extract 2 l.length = ⟨(l.drop 2).toArray⟩ := by rw [ByteArray.extract_mk, List.take_of_length_le (by simp)]
      have hml : (l.drop 2).length ≤ 100000 := by rw [List.length_drop]; omega
      have hme : (l.drop 2).length % 2 = 0 := by rw [List.length_drop]; omega
      obtain ⟨m, hm⟩ : ∃ m, m = l.drop 2 := ⟨_, rfl⟩
      rw [← hm] at hext hml Hbom hme
      have Hme := Lib.hid hme
      clear hm hbe hodd hme
      go_enter Tryd.func18, Tryd.ntmps18
      go_wp2
      go_quiet (fail)
      go_wp2
      go_quiet (fail)
      go_wp2
      go_loopw [7, 8] (fun v i wr => UntRel w m true v i wr) (fun _ i _ => m.length - (intOf i).toNat)
      case atStart => exact ⟨0, [], by omega, rfl, rfl, rfl, World.ownsRow_nil _ _ _ _, Blk.drewN (Blk.drewN hbl _) _, below_drewN (below_drewN hblB _) _⟩
      case round =>
        obtain ⟨j, out, hj, rfl, hout, he, ho, hF, hb⟩ := hrel
        have Hee := he
        have HF := Lib.hid hF
        have hsz : w.heap.size + 1 ≤ wr.heap.size := Blk.lt hF
        have hol : out.length ≤ 100000 := by have := hout.out; omega
        by_cases hlt : j + 1 < m.length
        · obtain ⟨x, hx, hx2, hx256⟩ := byte_at (s := m) (k := j) (by omega)
          obtain ⟨y, hy, hy2, hy256⟩ := byte_at hlt
          have Hx := Lib.hid hx2
          have Hy := Lib.hid hy2
          have hb1 : (j : Int) < (m.length : Int) := by omega
          have hb2 : (j : Int) + 1 < (m.length : Int) := by omega
          clear hx2 hy2
          have hor := or256 x y hx256 hy256
          have Hst := Lib.hid (show unt true (m.drop j) = ((256 * x + y : Nat) : Int) :: unt true (m.drop (j + 2)) by rw [drop_two hlt, unt, Hx.out, Hy.out]; rfl)
          generalize 256 * x + y = z at hor Hst
          go_wp2
          go_quiet (fail)
          go_wp2_with (at_builtin; go_must (refine wpList_app1 rfl (.tmp 53) (.tmp 58) 22 rfl Tryd.underlying22 hi hz0 hz1 hz2 rfl (by omega) (wr.drewN _) u7 _ _ rfl (by exact ho) _ rfl rfl (by omega) (by exact hsz) ?_); intro v3 w3 ho3 hB3 _)
          go_roundw
          case rel => first | exact ⟨j + 2, out ++ [(z : Int)], by omega, by go_num, by show j + 2 = 2 * (out ++ [(z : Int)]).length; have := hout.out; simp; omega, by show unt true m = _; rw [Hee.out, Hst.out]; simp, by simpa [iv] using ho3, Blk.below (Blk.drewN HF.out _) hB3 (by omega), (below_drewN hb _).trans (hB3.mono (by omega))⟩ | ((repeat apply Exists.intro); exact ⟨⟨j + 2, out ++ [(z : Int)], by omega, by go_num, by show j + 2 = 2 * (out ++ [(z : Int)]).length; have := hout.out; simp; omega, by show unt true m = _; rw [Hee.out, Hst.out]; simp, by simpa [iv] using ho3, Blk.below (Blk.drewN HF.out _) hB3 (by omega), (below_drewN hb _).trans (hB3.mono (by omega))⟩, rfl⟩)
          case measure => simp [intOf]; omega
        · have hend : j = m.length := by have := hout.out; have := Hme.out; omega
          have Hfin := Lib.hid (show unt true m = out by rw [Hee.out, hend, List.drop_length]; simp [unt])
          have Hj := Lib.hid hend
          have hnlt : ¬ (j : Int) < (m.length : Int) := by omega
          clear hend
          have c0 := hF.cell 0
          have c1 := hF.cell 1
          have f0 := hF.frozen 0
          have f1 := hF.frozen 1
          have hF2 := (hF.set_ 0 (.int .i64 0)).set_ 1 (.int .i64 0)
          have d0 := hF2.cell 0
          have d1 := hF2.cell 1
          obtain ⟨A1, c2, rfl, _, hr1⟩ := val_of_own ho
          go_wp2
          have Hu := Lib.hid (show untR l big = (out, true, 0, 0) by rw [He.out, Hbom.out]; simp only; rw [Hfin.out])
          refine bodyPost_ret (v := .tuple #[.slice A1 out.length c2, .bool true, .agg #[.int .i64 0, .int .i64 0]]) (by simp [results, Tryd.results18, go_sem] at d0 d1 ⊢; simp [d0, d1]) rfl ⟨_, by rw [Hu.out], ?_, ?_⟩
          · rw [Hu.out]
            exact ownsRow_setCell_below (ownsRow_setCell_below ho (by simp) _) (by simp) _
          · exact (hb.setCell (Nat.le_refl _) _).setCell (Nat.le_refl _) _
    · by_cases hle : l[0] = 255 ∧ l[1] = 254
      · have Hbom := Lib.hid (show bom l big = (l.drop 2, false) by rw [bom_of Hl2.out, if_neg hbe, if_pos hle])
        have e1 : x0 = 255 := by have := hle.1; simp only [toNat_eq, Hx0.out] at this; exact this
        have e2 : y0 = 254 := by have := hle.2; simp only [toNat_eq, Hy0.out] at this; exact this
        subst e1 e2
        have q1 := eq2u8 255 254 254 255
        have q2 := eq2u8 255 254 255 254
        simp only [BEq.rfl, Bool.and_self] at q2
        rw [show (((255 : Int) == 254) && ((254 : Int) == 255)) = false from rfl] at q1
        have hext : (⟨l.toArray⟩ : ByteArray).extract 2 l.length = ⟨(l.drop 2).toArray⟩ := by rw [ByteArray.extract_mk, List.take_of_length_le (by simp)]
        have hml : (l.drop 2).length ≤ 100000 := by rw [List.length_drop]; omega
        have hme : (l.drop 2).length % 2 = 0 := by rw [List.length_drop]; omega
        obtain ⟨m, hm⟩ : ∃ m, m = l.drop 2 := ⟨_, rfl⟩
        rw [← hm] at hext hml Hbom hme
        have Hme := Lib.hid hme
        clear hm hbe hle hodd hme
        go_enter Tryd.func18, Tryd.ntmps18
        go_wp2
        go_quiet (fail)
        go_wp2
        go_quiet (fail)
        go_wp2
        go_loopw [7, 8] (fun v i wr => UntRel w m false v i wr) (fun _ i _ => m.length - (intOf i).toNat)
        case atStart => exact ⟨0, [], by omega, rfl, rfl, rfl, World.ownsRow_nil _ _ _ _, Blk.drewN (Blk.drewN hbl _) _, below_drewN (below_drewN hblB _) _⟩
        case round =>
          obtain ⟨j, out, hj, rfl, hout, he, ho, hF, hb⟩ := hrel
          have Hee := he
          have HF := Lib.hid hF
          have hsz : w.heap.size + 1 ≤ wr.heap.size := Blk.lt hF
          have hol : out.length ≤ 100000 := by have := hout.out; omega
          by_cases hlt : j + 1 < m.length
          · obtain ⟨x, hx, hx2, hx256⟩ := byte_at (s := m) (k := j) (by omega)
            obtain ⟨y, hy, hy2, hy256⟩ := byte_at hlt
            have Hx := Lib.hid hx2
            have Hy := Lib.hid hy2
            have hb1 : (j : Int) < (m.length : Int) := by omega
            have hb2 : (j : Int) + 1 < (m.length : Int) := by omega
            clear hx2 hy2
            have hor := or256 y x hy256 hx256
            have Hst := Lib.hid (show unt false (m.drop j) = ((256 * y + x : Nat) : Int) :: unt false (m.drop (j + 2)) by rw [drop_two hlt, unt, Hx.out, Hy.out]; rfl)
            generalize 256 * y + x = z at hor Hst
            go_wp2
            go_quiet (fail)
            go_wp2_with (at_builtin; go_must (refine wpList_app1 rfl (.tmp 60) (.tmp 65) 22 rfl Tryd.underlying22 hi hz0 hz1 hz2 rfl (by omega) (wr.drewN _) u7 _ _ rfl (by exact ho) _ rfl rfl (by omega) (by exact hsz) ?_); intro v3 w3 ho3 hB3 _)
            go_roundw
            case rel => first | exact ⟨j + 2, out ++ [(z : Int)], by omega, by go_num, by show j + 2 = 2 * (out ++ [(z : Int)]).length; have := hout.out; simp; omega, by show unt false m = _; rw [Hee.out, Hst.out]; simp, by simpa [iv] using ho3, Blk.below (Blk.drewN HF.out _) hB3 (by omega), (below_drewN hb _).trans (hB3.mono (by omega))⟩ | ((repeat apply Exists.intro); exact ⟨⟨j + 2, out ++ [(z : Int)], by omega, by go_num, by show j + 2 = 2 * (out ++ [(z : Int)]).length; have := hout.out; simp; omega, by show unt false m = _; rw [Hee.out, Hst.out]; simp, by simpa [iv] using ho3, Blk.below (Blk.drewN HF.out _) hB3 (by omega), (below_drewN hb _).trans (hB3.mono (by omega))⟩, rfl⟩)
            case measure => simp [intOf]; omega
          · have hend : j = m.length := by have := hout.out; have := Hme.out; omega
            have Hfin := Lib.hid (show unt false m = out by rw [Hee.out, hend, List.drop_length]; simp [unt])
            have Hj := Lib.hid hend
            have hnlt : ¬ (j : Int) < (m.length : Int) := by omega
            clear hend
            have c0 := hF.cell 0
            have c1 := hF.cell 1
            have f0 := hF.frozen 0
            have f1 := hF.frozen 1
            have hF2 := (hF.set_ 0 (.int .i64 0)).set_ 1 (.int .i64 0)
            have d0 := hF2.cell 0
            have d1 := hF2.cell 1
            obtain ⟨A1, c2, rfl, _, hr1⟩ := val_of_own ho
            go_wp2
            have Hu := Lib.hid (show untR l big = (out, false, 0, 0) by rw [He.out, Hbom.out]; simp only; rw [Hfin.out])
            refine bodyPost_ret (v := .tuple #[.slice A1 out.length c2, .bool false, .agg #[.int .i64 0, .int .i64 0]]) (by simp [results, Tryd.results18, go_sem] at d0 d1 ⊢; simp [d0, d1]) rfl ⟨_, by rw [Hu.out], ?_, ?_⟩
            · rw [Hu.out]
              exact ownsRow_setCell_below (ownsRow_setCell_below ho (by simp) _) (by simp) _
            · exact (hb.setCell (Nat.le_refl _) _).setCell (Nat.le_refl _) _
      · have Hbom := Lib.hid (show bom l big = (l, big) by rw [bom_of Hl2.out, if_neg hbe, if_neg hle])
        have q1 := eq2u8 (x0 : Int) (y0 : Int) 254 255
        have q2 := eq2u8 (x0 : Int) (y0 : Int) 255 254
        rw [show ((x0 : Int) == 254 && (y0 : Int) == 255) = false by have := hbe; simp only [toNat_eq, Hx0.out, Hy0.out, show UInt8.toNat 254 = 254 from rfl, show UInt8.toNat 255 = 255 from rfl] at this; simp; omega] at q1
        rw [show ((x0 : Int) == 255 && (y0 : Int) == 254) = false by have := hle; simp only [toNat_eq, Hx0.out, Hy0.out, show UInt8.toNat 254 = 254 from rfl, show UInt8.toNat 255 = 255 from rfl] at this; simp; omega] at q2
        have Hme := Lib.hid (show l.length % 2 = 0 by omega)
        clear hbe hle hodd
        go_enter Tryd.func18, Tryd.ntmps18
        go_wp2
        go_quiet (fail)
        go_wp2
        go_loopw [7, 8] (fun v i wr => UntRel w l big v i wr) (fun _ i _ => l.length - (intOf i).toNat)
        case atStart => exact ⟨0, [], by omega, rfl, rfl, rfl, World.ownsRow_nil _ _ _ _, Blk.drewN hbl _, below_drewN hblB _⟩
        case round =>
          obtain ⟨j, out, hj, rfl, hout, he, ho, hF, hb⟩ := hrel
          have Hee := he
          have HF := Lib.hid hF
          have hsz : w.heap.size + 1 ≤ wr.heap.size := Blk.lt hF
          have hol : out.length ≤ 100000 := by have := hout.out; omega
          by_cases hlt : j + 1 < l.length
          · obtain ⟨x, hx, hx2, hx256⟩ := byte_at (s := l) (k := j) (by omega)
            obtain ⟨y, hy, hy2, hy256⟩ := byte_at hlt
            have Hx := Lib.hid hx2
            have Hy := Lib.hid hy2
            have hb1 : (j : Int) < (l.length : Int) := by omega
            have hb2 : (j : Int) + 1 < (l.length : Int) := by omega
            clear hx2 hy2
            cases big with
            | true =>
              have hor := or256 x y hx256 hy256
              have Hst := Lib.hid (show unt true (l.drop j) = ((256 * x + y : Nat) : Int) :: unt true (l.drop (j + 2)) by rw [drop_two hlt, unt, Hx.out, Hy.out]; rfl)
              generalize 256 * x + y = z at hor Hst
              go_wp2
              go_quiet (fail)
              go_wp2_with (at_builtin; go_must (refine wpList_app1 rfl (.tmp 53) (.tmp 58) 22 rfl Tryd.underlying22 hi hz0 hz1 hz2 rfl (by omega) (wr.drewN _) u7 _ _ rfl (by exact ho) _ rfl rfl (by omega) (by exact hsz) ?_); intro v3 w3 ho3 hB3 _)
              go_roundw
              case rel => first | exact ⟨j + 2, out ++ [(z : Int)], by omega, by go_num, by show j + 2 = 2 * (out ++ [(z : Int)]).length; have := hout.out; simp; omega, by show unt true l = _; rw [Hee.out, Hst.out]; simp, by simpa [iv] using ho3, Blk.below (Blk.drewN HF.out _) hB3 (by omega), (below_drewN hb _).trans (hB3.mono (by omega))⟩ | ((repeat apply Exists.intro); exact ⟨⟨j + 2, out ++ [(z : Int)], by omega, by go_num, by show j + 2 = 2 * (out ++ [(z : Int)]).length; have := hout.out; simp; omega, by show unt true l = _; rw [Hee.out, Hst.out]; simp, by simpa [iv] using ho3, Blk.below (Blk.drewN HF.out _) hB3 (by omega), (below_drewN hb _).trans (hB3.mono (by omega))⟩, rfl⟩)
              case measure => simp [intOf]; omega
            | false =>
              have hor := or256 y x hy256 hx256
              have Hst := Lib.hid (show unt false (l.drop j) = ((256 * y + x : Nat) : Int) :: unt false (l.drop (j + 2)) by rw [drop_two hlt, unt, Hx.out, Hy.out]; rfl)
              generalize 256 * y + x = z at hor Hst
              go_wp2
              go_quiet (fail)
              go_wp2_with (at_builtin; go_must (refine wpList_app1 rfl (.tmp 60) (.tmp 65) 22 rfl Tryd.underlying22 hi hz0 hz1 hz2 rfl (by omega) (wr.drewN _) u7 _ _ rfl (by exact ho) _ rfl rfl (by omega) (by exact hsz) ?_); intro v3 w3 ho3 hB3 _)
              go_roundw
              case rel => first | exact ⟨j + 2, out ++ [(z : Int)], by omega, by go_num, by show j + 2 = 2 * (out ++ [(z : Int)]).length; have := hout.out; simp; omega, by show unt false l = _; rw [Hee.out, Hst.out]; simp, by simpa [iv] using ho3, Blk.below (Blk.drewN HF.out _) hB3 (by omega), (below_drewN hb _).trans (hB3.mono (by omega))⟩ | ((repeat apply Exists.intro); exact ⟨⟨j + 2, out ++ [(z : Int)], by omega, by go_num, by show j + 2 = 2 * (out ++ [(z : Int)]).length; have := hout.out; simp; omega, by show unt false l = _; rw [Hee.out, Hst.out]; simp, by simpa [iv] using ho3, Blk.below (Blk.drewN HF.out _) hB3 (by omega), (below_drewN hb _).trans (hB3.mono (by omega))⟩, rfl⟩)
              case measure => simp [intOf]; omega
          · have hend : j = l.length := by have := hout.out; have := Hme.out; omega
            have Hfin := Lib.hid (show unt big l = out by rw [Hee.out, hend, List.drop_length]; simp [unt])
            have Hj := Lib.hid hend
            have hnlt : ¬ (j : Int) < (l.length : Int) := by omega
            clear hend
            have c0 := hF.cell 0
            have c1 := hF.cell 1
            have f0 := hF.frozen 0
            have f1 := hF.frozen 1
            have hF2 := (hF.set_ 0 (.int .i64 0)).set_ 1 (.int .i64 0)
            have d0 := hF2.cell 0
            have d1 := hF2.cell 1
            obtain ⟨A1, c2, rfl, _, hr1⟩ := val_of_own ho
            go_wp2
            have Hu := Lib.hid (show untR l big = (out, big, 0, 0) by rw [He.out, Hbom.out]; simp only; rw [Hfin.out])
            refine bodyPost_ret (v := .tuple #[.slice A1 out.length c2, .bool big, .agg #[.int .i64 0, .int .i64 0]]) (by simp [results, Tryd.results18, go_sem] at d0 d1 ⊢; simp [d0, d1]) rfl ⟨_, by rw [Hu.out], ?_, ?_⟩
            · rw [Hu.out]
              exact ownsRow_setCell_below (ownsRow_setCell_below ho (by simp) _) (by simp) _
            · exact (hb.setCell (Nat.le_refl _) _).setCell (Nat.le_refl _) _
end Go.Proofs.YtpkikgdcmhbehaaDoor
