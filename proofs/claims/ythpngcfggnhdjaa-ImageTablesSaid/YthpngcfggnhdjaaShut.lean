import Derived.Test.YthpngcfggnhdjaaAlive
import Derived.Test.YthpngcfggnhdjaaBld
namespace Go.Proofs.Ythpngcfggnhdjaa
open Go.RowKit Go.Proofs.Img

theorem fnv_bd (l : List UInt8) : 0 ≤ fnv l ∧ fnv l < 4294967296 := by
  rcases List.eq_nil_or_concat l with rfl | ⟨l', b, rfl⟩
  · exact ⟨by decide, by decide⟩
  · rw [List.concat_eq_append, fnv_snoc]; omega
def fnvN (l : List UInt8) : Nat := (fnv l).toNat
theorem fnvN_lt (l : List UInt8) : fnvN l < 4294967296 := by have := fnv_bd l; unfold fnvN; omega
theorem fnvN_eq (l : List UInt8) : fnv l = (fnvN l : Int) := by have := fnv_bd l; unfold fnvN; omega
/-- the four bytes of a number -/
def fourB (n : Nat) : List UInt8 := [UInt8.ofNat (n / 16777216), UInt8.ofNat (n / 65536 % 256), UInt8.ofNat (n / 256 % 256), UInt8.ofNat (n % 256)]
def shutB (l : List UInt8) : List UInt8 := fourB (fnvN l) ++ l

theorem ix0 (w : World) : (Instr.index 67 (.agg #[.int .i64 24, .int .i64 16, .int .i64 8, .int .i64 0]) (.int .i64 0)).run Try.prog w = .ok (.int .i64 24) w := by kernel_rfl
theorem ix1 (w : World) : (Instr.index 67 (.agg #[.int .i64 24, .int .i64 16, .int .i64 8, .int .i64 0]) (.int .i64 1)).run Try.prog w = .ok (.int .i64 16) w := by kernel_rfl
theorem ix2 (w : World) : (Instr.index 67 (.agg #[.int .i64 24, .int .i64 16, .int .i64 8, .int .i64 0]) (.int .i64 2)).run Try.prog w = .ok (.int .i64 8) w := by kernel_rfl
theorem ix3 (w : World) : (Instr.index 67 (.agg #[.int .i64 24, .int .i64 16, .int .i64 8, .int .i64 0]) (.int .i64 3)).run Try.prog w = .ok (.int .i64 0) w := by kernel_rfl

theorem writeByte_int (B b : Nat) (l : List UInt8) (c : UInt8) (x : Int) (w : World) (h : IsB B b l w) (hlen : l.length ≤ 1000000000000) (hBw : B ≤ w.heap.size) (hx : (c.toNat : Int) = x) :
    Calls Try.prog 41 #[.pointer (some ⟨b, 0, none⟩), .int .u8 x] w fun e w' => e = .returned .nilIface ∧ IsB B b (l ++ [c]) w' ∧ Below B w w' := by
  subst hx; exact writeByte_any B b l c w h hlen hBw

set_option maxRecDepth 100000 in
set_option maxHeartbeats 1000000 in
theorem shut_any (l : List UInt8) (w : World) (hl : l.length ≤ 1000000) :
    Calls Try.prog 20 #[.string ⟨l.toArray⟩] w fun e w' => e = .returned (.string ⟨(shutB l).toArray⟩) ∧ Below w.heap.size w w' := by
  have hlt := fnvN_lt l
  have j0 := ix0
  have j1 := ix1
  have j2 := ix2
  have j3 := ix3
  go_enter Try.func20, Try.ntmps20
  go_wp2_with fail
  refine (sum_l l w hl).mono ?_
  rintro e w1 ⟨rfl, rfl⟩
  rw [fnvN_eq]
  generalize hn : fnvN l = n at hlt
  have Hn := Lib.hid hn
  clear hn
  go_wp2
  go_loopw [6, 10] (fun _ i wr => ∃ k : Nat, k ≤ 4 ∧ i = .int .i64 k ∧ IsB w.heap.size w.heap.size ((fourB n).take k) wr ∧ Below w.heap.size w wr) (fun _ i _ => 4 - (intOf i).toNat)
  case atStart => exact ⟨0, by omega, rfl, fresh_B w, (Below.refl _ _).alloc (Nat.le_refl _) _⟩
  case round =>
    obtain ⟨k, hk, rfl, hB, hb⟩ := hrel
    have HB := Lib.hid hB
    clear hB
    have hcase : k = 0 ∨ k = 1 ∨ k = 2 ∨ k = 3 ∨ k = 4 := by omega
    rcases hcase with rfl | rfl | rfl | rfl | rfl
    · have Hw := Lib.hid (writeByte_int w.heap.size w.heap.size ((fourB n).take 0) (UInt8.ofNat (n / 16777216)) ((n : Int) / 16777216) wr HB.out (by simp [fourB]) hb.size (by rw [toNat_ofNat _ (by omega)]; omega))
      go_wp2_with fail
      refine Hw.out.mono ?_
      rintro e w2 ⟨rfl, hB2, hb2⟩
      go_wp2
      go_roundw
      case rel => exact ⟨1, by omega, rfl, hB2, hb.trans hb2⟩
      case measure => simp [intOf]
    · have Hw := Lib.hid (writeByte_int w.heap.size w.heap.size ((fourB n).take 1) (UInt8.ofNat (n / 65536 % 256)) ((n : Int) / 65536 % 256) wr HB.out (by simp [fourB]) hb.size (by rw [toNat_ofNat _ (by omega)]; omega))
      go_wp2_with fail
      refine Hw.out.mono ?_
      rintro e w2 ⟨rfl, hB2, hb2⟩
      go_wp2
      go_roundw
      case rel => exact ⟨2, by omega, rfl, hB2, hb.trans hb2⟩
      case measure => simp [intOf]
    · have Hw := Lib.hid (writeByte_int w.heap.size w.heap.size ((fourB n).take 2) (UInt8.ofNat (n / 256 % 256)) ((n : Int) / 256 % 256) wr HB.out (by simp [fourB]) hb.size (by rw [toNat_ofNat _ (by omega)]; omega))
      go_wp2_with fail
      refine Hw.out.mono ?_
      rintro e w2 ⟨rfl, hB2, hb2⟩
      go_wp2
      go_roundw
      case rel => exact ⟨3, by omega, rfl, hB2, hb.trans hb2⟩
      case measure => simp [intOf]
    · have Hw := Lib.hid (writeByte_int w.heap.size w.heap.size ((fourB n).take 3) (UInt8.ofNat (n % 256)) ((n : Int) % 256) wr HB.out (by simp [fourB]) hb.size (by rw [toNat_ofNat _ (by omega)]; omega))
      go_wp2_with fail
      refine Hw.out.mono ?_
      rintro e w2 ⟨rfl, hB2, hb2⟩
      go_wp2
      go_roundw
      case rel => exact ⟨4, by omega, rfl, hB2, hb.trans hb2⟩
      case measure => simp [intOf]
    · have Hw := Lib.hid (writeString_any w.heap.size w.heap.size ((fourB n).take 4) l wr HB.out (by simp [fourB]; omega) hb.size)
      go_wp2_with fail
      refine Hw.out.mono ?_
      rintro e w2 ⟨rfl, hB2, hb2⟩
      have hsz : w.heap.size ≤ w2.heap.size := (hb.trans hb2).size
      go_wp2_with fail
      refine (string_any w.heap.size w.heap.size _ w2 hB2 hsz).mono ?_
      rintro e w3 ⟨rfl, hb3⟩
      go_wp2
      go_ret
      exact ⟨ret_str (by rw [shutB, Hn.out]; rfl), (hb.trans hb2).trans hb3⟩

def openR (l : List UInt8) : List UInt8 × Int := if l.length < 4 then ([], 2) else if shutB (l.drop 4) = l then (l.drop 4, 0) else ([], 14)
theorem drop4 (l : List UInt8) : (⟨l.toArray⟩ : ByteArray).extract 4 l.length = ⟨(l.drop 4).toArray⟩ := by
  rw [ByteArray.extract_mk, List.take_of_length_le (by simp)]

set_option maxRecDepth 100000 in
set_option maxHeartbeats 1000000 in
theorem refshut_any (l : List UInt8) (w : World) (hl : l.length ≤ 1000000) :
    Calls Try.prog 23 #[.string ⟨l.toArray⟩] w fun e w' => e = .returned (.string ⟨(shutB l).toArray⟩) ∧ Below w.heap.size w w' := by
  have hlt := fnvN_lt l
  go_enter Try.func23, Try.ntmps23
  go_wp2_with fail
  refine (refsum_l l w hl).mono ?_
  rintro e w1 ⟨rfl, rfl⟩
  rw [fnvN_eq]
  generalize hn : fnvN l = n at hlt
  have Hn := Lib.hid hn
  clear hn
  obtain ⟨F, hF⟩ : ∃ F, F = fourB n := ⟨_, rfl⟩
  have hcv := conv_new w Try.underlying39 Try.underlying5 Try.underlying9 #[.int .u8 ((n : Int) / 16777216), .int .u8 ((n : Int) / 65536 % 256), .int .u8 ((n : Int) / 256 % 256), .int .u8 ((n : Int) % 256)] F (by
    rw [hF]
    simp only [fourB, List.map_cons, List.map_nil]
    rw [bv_ofNat _ (by omega), bv_ofNat _ (by omega), bv_ofNat _ (by omega), bv_ofNat _ (by omega)]
    rfl) 4 (by rw [hF]; rfl)
  have hFl : F.length ≤ 4 := by rw [hF]; exact Nat.le_refl _
  have HF := Lib.hid hF
  clear hF
  go_wp2
  go_ret
  exact ⟨congrArg (fun s => Ending.returned (.string s)) ((ByteArray.mk_append_mk F l).trans (by rw [shutB, Hn.out, HF.out])), (Below.refl _ _).alloc (Nat.le_refl _) _⟩

set_option maxRecDepth 100000 in
set_option maxHeartbeats 1000000 in
theorem open_any (l : List UInt8) (w : World) (hl : l.length ≤ 1000000) :
    Calls Try.prog 21 #[.string ⟨l.toArray⟩] w fun e w' => e = .returned (.tuple #[.string ⟨(openR l).1.toArray⟩, .int .i64 (openR l).2]) ∧ Below w.heap.size w w' := by
  by_cases h4 : l.length < 4
  · have h' : (l.length : Int) < 4 := by omega
    have He := Lib.hid (show openR l = ([], 2) by rw [openR, if_pos h4])
    go_enter Try.func21, Try.ntmps21
    go_wp2
    go_ret2
    exact ⟨by rw [He.out]; rfl, Below.refl _ _⟩
  · have h' : ¬ (l.length : Int) < 4 := by omega
    have hext := drop4 l
    have hdl : (l.drop 4).length ≤ 1000000 := by rw [List.length_drop]; omega
    by_cases hs : shutB (l.drop 4) = l
    · have hb : (shutB (l.drop 4) == l) = true := by rw [hs]; simp
      have He := Lib.hid (show openR l = (l.drop 4, 0) by rw [openR, if_neg h4, if_pos hs])
      have Hs := Lib.hid hs
      clear hs
      go_enter Try.func21, Try.ntmps21
      go_wp2_with fail
      refine (shut_any (l.drop 4) w hdl).mono ?_
      rintro e w1 ⟨rfl, hb1⟩
      go_wp2
      go_ret2
      exact ⟨by rw [He.out]; rfl, hb1⟩
    · have hb : (shutB (l.drop 4) == l) = false := by rw [beq_eq_false_iff_ne]; exact hs
      have He := Lib.hid (show openR l = ([], 14) by rw [openR, if_neg h4, if_neg hs])
      have Hs := Lib.hid hs
      clear hs
      go_enter Try.func21, Try.ntmps21
      go_wp2_with fail
      refine (shut_any (l.drop 4) w hdl).mono ?_
      rintro e w1 ⟨rfl, hb1⟩
      go_wp2
      go_ret2
      exact ⟨by rw [He.out]; rfl, hb1⟩

set_option maxRecDepth 100000 in
set_option maxHeartbeats 1000000 in
theorem refopen_any (l : List UInt8) (w : World) (hl : l.length ≤ 1000000) :
    Calls Try.prog 22 #[.string ⟨l.toArray⟩] w fun e w' => e = .returned (.tuple #[.string ⟨(openR l).1.toArray⟩, .int .i64 (openR l).2]) ∧ Below w.heap.size w w' := by
  by_cases h4 : l.length < 4
  · have h' : (l.length : Int) < 4 := by omega
    have He := Lib.hid (show openR l = ([], 2) by rw [openR, if_pos h4])
    go_enter Try.func22, Try.ntmps22
    go_wp2
    go_ret2
    exact ⟨by rw [He.out]; rfl, Below.refl _ _⟩
  · have h' : ¬ (l.length : Int) < 4 := by omega
    have hext := drop4 l
    have hdl : (l.drop 4).length ≤ 1000000 := by rw [List.length_drop]; omega
    by_cases hs : shutB (l.drop 4) = l
    · have hb : (shutB (l.drop 4) == l) = true := by rw [hs]; simp
      have He := Lib.hid (show openR l = (l.drop 4, 0) by rw [openR, if_neg h4, if_pos hs])
      have Hs := Lib.hid hs
      clear hs
      go_enter Try.func22, Try.ntmps22
      go_wp2_with fail
      refine (refshut_any (l.drop 4) w hdl).mono ?_
      rintro e w1 ⟨rfl, hb1⟩
      go_wp2
      go_ret2
      exact ⟨by rw [He.out]; rfl, hb1⟩
    · have hb : (shutB (l.drop 4) == l) = false := by rw [beq_eq_false_iff_ne]; exact hs
      have He := Lib.hid (show openR l = ([], 14) by rw [openR, if_neg h4, if_neg hs])
      have Hs := Lib.hid hs
      clear hs
      go_enter Try.func22, Try.ntmps22
      go_wp2_with fail
      refine (refshut_any (l.drop 4) w hdl).mono ?_
      rintro e w1 ⟨rfl, hb1⟩
      go_wp2
      go_ret2
      exact ⟨by rw [He.out]; rfl, hb1⟩
end Go.Proofs.Ythpngcfggnhdjaa
