/- utf16text.Units. -/
import Derived.Test.YtbcbmmgfdobdiaaDoorU16D
namespace Go.Proofs.YtbcbmmgfdobdiaaDoor
open Go.RowKit

theorem ofInt_i64 (a : Nat) (ha : a < 9223372036854775808) : (BitVec.ofInt 64 (a : Int)).toNat = a := by
  rw [BitVec.ofInt_natCast, BitVec.toNat_ofNat]; exact Nat.mod_eq_of_lt (by omega)
theorem or256 (a b : Nat) (ha : a < 256) (hb : b < 256) : bits .or .i64 ((a : Int) * 256) (b : Int) = ((256 * a + b : Nat) : Int) := by
  have e : ((a : Int) * 256) = ((a * 256 : Nat) : Int) := by omega
  rw [e]
  show IntKind.i64.wrap ((BitVec.ofInt 64 ((a * 256 : Nat) : Int) ||| BitVec.ofInt 64 (b : Int)).toNat : Int) = _
  rw [BitVec.toNat_or, ofInt_i64 _ (by omega), ofInt_i64 _ (by omega), IntKind.wrap_i64]
  have h := Nat.two_pow_add_eq_or_of_lt (i := 8) (b := b) (by omega) a
  have e2 : a * 256 = 2 ^ 8 * a := by omega
  rw [e2, ← h]
  omega
theorem eq2u8 (a b c d : Int) (w : World) : (binOp .eql 135 (.agg #[.int .u8 a, .int .u8 b]) (.agg #[.int .u8 c, .int .u8 d])).run Tryd.prog w = .ok (.bool (a == c && b == d)) w := by
  rw [run_eql_struct, run_equalIn_arr2 w 9999 135 5 .u8 a b c d Tryd.underlying135 Tryd.sizeOf5 Tryd.isAgg5 (fun x y w => run_equalIn_int w 9998 5 .u8 .u8 x y Tryd.underlying5)]
  rfl
theorem eqg8 (x y : Operand) (xs ys : Array Value) (w : World) : (eqGuard .eql 135 x y (.agg xs) (.agg ys)).run Tryd.prog w = .ok () w :=
  run_eqGuard_agg w .eql 135 x y xs ys (by kernel_rfl)

theorem toNat_eq (a b : UInt8) : (a = b) = (a.toNat = b.toNat) := propext UInt8.toNat_inj.symm
def unt (big : Bool) : List UInt8 → List Int
  | a :: b :: t => ((if big = true then 256 * a.toNat + b.toNat else 256 * b.toNat + a.toNat : Nat) : Int) :: unt big t
  | _ => []
/-- the bytes behind a mark, and the order -/
def bom (s : List UInt8) (big : Bool) : List UInt8 × Bool :=
  match s with
  | a :: b :: t => if a = 254 ∧ b = 255 then (t, true) else if a = 255 ∧ b = 254 then (t, false) else (s, big)
  | _ => (s, big)
theorem bom_of {l t : List UInt8} {a b : UInt8} {big : Bool} (h : l = a :: b :: t) : bom l big = if a = 254 ∧ b = 255 then (t, true) else if a = 255 ∧ b = 254 then (t, false) else (l, big) := by subst h; rfl
def untR (s : List UInt8) (big : Bool) : List Int × Bool × Int × Int :=
  if s.length % 2 = 1 then ([], false, 9, (s.length : Int) - 1) else (unt (bom s big).2 (bom s big).1, (bom s big).2, 0, 0)

theorem drop_two {s : List UInt8} {k : Nat} (h : k + 1 < s.length) : s.drop k = s[k] :: s[k + 1] :: s.drop (k + 2) := by
  rw [List.drop_eq_getElem_cons (by omega), List.drop_eq_getElem_cons h]
theorem byte_at {s : List UInt8} {k : Nat} (h : k < s.length) : ∃ x, (⟨s.toArray⟩ : ByteArray)[k].toNat = x ∧ s[k].toNat = x ∧ x < 256 := ⟨_, rfl, rfl, s[k].toNat_lt⟩

def UntRel (w : World) (m : List UInt8) (big : Bool) (v i : Value) (wr : World) : Prop :=
  ∃ (j : Nat) (out : List Int), j ≤ m.length ∧ i = .int .i64 (j : Int) ∧ Hid (j = 2 * out.length) ∧ Hid (unt big m = out ++ unt big (m.drop j)) ∧
    wr.ownsRow (w.heap.size + 1) 3 1 v out.length (out.map iv) ∧ fltB wr w.heap.size 0 0 ∧ Below w.heap.size w wr

end Go.Proofs.YtbcbmmgfdobdiaaDoor
