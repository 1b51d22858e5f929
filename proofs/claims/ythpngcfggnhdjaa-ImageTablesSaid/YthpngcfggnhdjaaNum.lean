import Derived.Test.YthpngcfggnhdjaaRows
import Derived.Test.YthpngcfggnhdjaaPlain
import Derived.Test.YthpngcfggnhdjaaWords
import Derived.WalkKit
import Derived.WalkSpells
import Derived.WalkLawsBesides
import Derived.Lib.Hide
namespace Go.Proofs.Ythpngcfggnhdjaa
open Go.RowKit Go.Proofs.Img

theorem Try.info5 : (Try.prog.info? 5).map (fun i => (i.zero, i.size, i.bytes)) = some (some (.int .u8 0), 1, 1) := by kernel_rfl

theorem or128_nat : ∀ a : Fin 256, bits .or .u8 (a.val : Int) 128 = ((128 + a.val % 128 : Nat) : Int) := by decide +kernel
theorem or128 (u : Nat) : Value.int .u8 (bits .or .u8 ((u : Int) % 256) 128) = bv (UInt8.ofNat (128 + u % 128)) := by
  have h := or128_nat ⟨u % 256, by omega⟩
  simp only at h
  have e : ((u % 256 : Nat) : Int) = (u : Int) % 256 := by omega
  rw [e] at h
  rw [h, bv, toNat_ofNat _ (by omega)]
  congr 2; omega
theorem low7 (u : Nat) (h : u < 128) : Value.int .u8 ((u : Int) % 256) = bv (UInt8.ofNat u) := by
  rw [bv, toNat_ofNat _ (by omega)]; congr 1; omega


/-- the state of the loop that writes a number's groups -/
def NumRel (base n : Nat) (xs : List Value) (x : Int) (w : World) (v u : Value) (wr : World) : Prop :=
  ∃ (k u' : Nat) (done : List UInt8), u = .int .u64 (u' : Int) ∧ u' < 2 * 128 ^ k ∧ done.length + k = 9 ∧ numB x = done ++ vb k u' ∧
    wr.ownsRow base 5 1 v (n + done.length) (xs ++ done.map bv) ∧ base ≤ wr.heap.size ∧ Below base w wr

theorem num_step {base n : Nat} {xs : List Value} {x : Int} {w wr w1 : World} {k u : Nat} {done : List UInt8} {v1 : Value}
    (hu : u < 2 * 128 ^ k) (hd : done.length + k = 9) (he : numB x = done ++ vb k u) (h : ¬ u < 128) (hb : base ≤ wr.heap.size) (hB : Below base w wr)
    (h1 : w1.ownsRow base 5 1 v1 (n + done.length + 1) ((xs ++ done.map bv) ++ [Value.int .u8 (bits .or .u8 ((u : Int) % 256) 128)]))
    (hB1 : Below base wr w1) : NumRel base n xs x w v1 (.int .u64 ((u : Int) / 128)) w1 := by
  cases k with
  | zero => omega
  | succ k =>
    have hsz : base ≤ w1.heap.size := by have := hB1.size; omega
    refine ⟨k, u / 128, done ++ [UInt8.ofNat (128 + u % 128)], by congr 1, by rw [Nat.pow_succ] at hu; omega, by simp; omega, ?_, ?_, hsz, hB.trans hB1⟩
    · rw [he, vb, if_neg h]; simp
    · rw [or128] at h1
      simpa [Nat.add_assoc] using h1

theorem num_end {base n : Nat} {xs : List Value} {x : Int} {w wr w1 : World} {k u : Nat} {done : List UInt8} {v1 : Value}
    (he : numB x = done ++ vb k u) (h : u < 128) (hB : Below base w wr)
    (h1 : w1.ownsRow base 5 1 v1 (n + done.length + 1) ((xs ++ done.map bv) ++ [Value.int .u8 (u : Int)]))
    (hB1 : Below base wr w1) : w1.ownsRow base 5 1 v1 (n + (numB x).length) (xs ++ (numB x).map bv) ∧ Below base w w1 := by
  refine ⟨?_, hB.trans hB1⟩
  have e : Value.int .u8 (u : Int) = bv (UInt8.ofNat u) := by rw [bv, toNat_ofNat _ (by omega)]
  rw [e] at h1
  rw [he, vb_lt h]
  simpa [Nat.add_assoc] using h1

theorem not64 (b : Nat) (h : b < 18446744073709551616) : 18446744073709551615 ^^^ b = 18446744073709551615 - b := by
  have e := congrArg BitVec.toNat (BitVec.allOnes_xor (x := BitVec.ofNat 64 b))
  rw [BitVec.toNat_xor, BitVec.toNat_not, BitVec.toNat_allOnes, BitVec.toNat_ofNat, Nat.mod_eq_of_lt h] at e
  simpa using e
theorem neg_u64 (x : Int) (h1 : -9223372036854775808 ≤ x) (h : x < 0) :
    bits BinOp.xor IntKind.u64 IntKind.u64.max (IntKind.u64.wrap (IntKind.u64.wrap x * 2)) = ((-2 * x - 1).toNat : Int) := by
  have e1 : IntKind.u64.max = 18446744073709551615 := by decide
  have e2 : IntKind.u64.wrap (IntKind.u64.wrap x * 2) = 18446744073709551616 + 2 * x := by
    simp only [IntKind.wrap_u64]; omega
  rw [e1, e2, u64_xor _ _ (by omega) (by omega) (by omega) (by omega)]
  have e3 : (18446744073709551615 : Int).toNat = 18446744073709551615 := rfl
  rw [e3, not64 _ (by omega)]
  omega

set_option maxRecDepth 100000 in
set_option maxHeartbeats 400000 in
theorem number_own (base n : Nat) (v : Value) (xs : List Value) (x : Int) (w : World) (hx : I64 x)
    (hown : w.ownsRow base 5 1 v n xs) (hbase : base ≤ w.heap.size) (hn : n ≤ 100000000000) :
    Calls Try.prog 52 #[v, .int .i64 x] w fun e w' => ∃ v', e = .returned v' ∧ w'.ownsRow base 5 1 v' (n + (numB x).length) (xs ++ (numB x).map bv) ∧ Below base w w' := by
  obtain ⟨i0, hi, hz0, hz1, hz2⟩ := info_parts Try.info5
  obtain ⟨hx1, hx2⟩ := hx
  have hzl := zig_lt x hx1 hx2
  have Hz := Lib.hid hzl
  clear hzl
  by_cases hneg : x < 0
  · have Hn := Lib.hid hneg
    have He := Lib.hid (neg_u64 x hx1 hneg)
    go_enter Try.func52, Try.ntmps52
    go_wp2
    go_loopw [0, 5] (fun v' u wr => NumRel base n xs x w v' u wr) (fun _ u _ => (intOf u).toNat)
    case atStart => exact ⟨9, (-2 * x - 1).toNat, [], by rw [He.out], by have := Hz.out; unfold zig at this; rw [if_pos Hn.out] at this; rw [pow9]; exact this, rfl, by unfold numB zig; rw [if_pos Hn.out]; rfl, by simpa using hown, hbase, Below.refl _ _⟩
    case round =>
      clear hx1 hx2
      obtain ⟨k, u', done, rfl, hu, hd, he, ho, hb, hB⟩ := hrel
      have Hu := Lib.hid hu
      have He := Lib.hid he
      have Hd := Lib.hid hd
      have hdl : done.length ≤ 9 := by omega
      clear hu he hd
      by_cases h : u' < 128
      · have h' : ¬ (128 : Int) ≤ u' := by omega
        go_wp2_with (at_builtin; go_must (refine wpList_app1 rfl (.tmp 23) (.tmp 26) 39 rfl Try.underlying39 hi hz0 hz1 hz2 rfl (by omega) wr u0 _ _ rfl ho _ rfl rfl (by omega) hb ?_); intro v1 w1 hown1 hB1 _)
        go_ret
        exact ⟨v1, rfl, num_end He.out h hB hown1 hB1⟩
      · have h' : (128 : Int) ≤ u' := by omega
        go_wp2_with (at_builtin; go_must (refine wpList_app1 rfl (.tmp 15) (.tmp 19) 39 rfl Try.underlying39 hi hz0 hz1 hz2 rfl (by omega) wr u0 _ _ rfl ho _ rfl rfl (by omega) hb ?_); intro v1 w1 hown1 hB1 _)
        go_roundw
        case rel => exact num_step Hu.out Hd.out He.out h hb hB hown1 hB1
        case measure => simp [intOf]; omega
  · go_enter Try.func52, Try.ntmps52
    have Hn := Lib.hid hneg
    go_wp2
    go_loopw [0, 5] (fun v' u wr => NumRel base n xs x w v' u wr) (fun _ u _ => (intOf u).toNat)
    case atStart => exact ⟨9, (2 * x).toNat, [], by congr 1; omega, by have := Hz.out; unfold zig at this; rw [if_neg (Int.not_lt.2 Hn.out)] at this; rw [pow9]; exact this, rfl, by unfold numB zig; rw [if_neg (Int.not_lt.2 Hn.out)]; rfl, by simpa using hown, hbase, Below.refl _ _⟩
    case round =>
      clear hx1 hx2
      obtain ⟨k, u', done, rfl, hu, hd, he, ho, hb, hB⟩ := hrel
      have Hu := Lib.hid hu
      have He := Lib.hid he
      have Hd := Lib.hid hd
      have hdl : done.length ≤ 9 := by omega
      clear hu he hd
      by_cases h : u' < 128
      · have h' : ¬ (128 : Int) ≤ u' := by omega
        go_wp2_with (at_builtin; go_must (refine wpList_app1 rfl (.tmp 23) (.tmp 26) 39 rfl Try.underlying39 hi hz0 hz1 hz2 rfl (by omega) wr u0 _ _ rfl ho _ rfl rfl (by omega) hb ?_); intro v1 w1 hown1 hB1 _)
        go_ret
        exact ⟨v1, rfl, num_end He.out h hB hown1 hB1⟩
      · have h' : (128 : Int) ≤ u' := by omega
        go_wp2_with (at_builtin; go_must (refine wpList_app1 rfl (.tmp 15) (.tmp 19) 39 rfl Try.underlying39 hi hz0 hz1 hz2 rfl (by omega) wr u0 _ _ rfl ho _ rfl rfl (by omega) hb ?_); intro v1 w1 hown1 hB1 _)
        go_roundw
        case rel => exact num_step Hu.out Hd.out He.out h hb hB hown1 hB1
        case measure => simp [intOf]; omega
end Go.Proofs.Ythpngcfggnhdjaa
