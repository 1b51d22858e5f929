/- utf8text.escaped, Decode, Valid. -/
import Derived.Test.YtbcbmmgfdobdiaaDoorU8E
import Derived.Test.YtbcbmmgfdobdiaaDoorStep
import Derived.WalkMore
namespace Go.Proofs.YtbcbmmgfdobdiaaDoor
open Go.RowKit

theorem hex_byte : ∀ x : Fin 256, hexB (x.val : Int) = [48, 48, dg (x.val / 16), dg (x.val % 16)] := by decide +kernel
theorem esc8_snoc (s : List UInt8) (k : Nat) (h : k < s.length) : esc8 (s.take (k + 1)) = esc8 (s.take k) ++ esc1 s[k] := by
  rw [List.take_succ_eq_append_getElem h, esc8, esc8, List.flatMap_append]; simp only [List.flatMap_cons, List.flatMap_nil, List.append_nil]
theorem esc8_len (s : List UInt8) : (esc8 s).length = 4 * s.length := by
  induction s with
  | nil => rfl
  | cons b s ih => simp [esc8, esc1] at ih ⊢; omega

def outI : Except Nat (List Int) → List Int × Int × Int
  | .ok o => (o, 0, 0)
  | .error i => ([], 9, (i : Int))
def dec8R (s : List UInt8) (p : Int) : List Int × Int × Int := if known8 p = true then outI (dec8 p s.length 0 s) else ([], 8, 0)
def Dec8Rel (w : World) (s : List UInt8) (p : Int) (v i : Value) (wr : World) : Prop :=
  ∃ (k f : Nat) (out : List Int), k ≤ s.length ∧ i = .int .i64 (k : Int) ∧ (s.drop k).length ≤ f ∧ out.length ≤ 5 * k ∧ Hid (dec8 p s.length 0 s = pre8 out (dec8 p f k (s.drop k))) ∧
    wr.ownsRow (w.heap.size + 1) 3 1 v out.length (out.map iv) ∧ Hid (flt8 wr w.heap.size 0 0) ∧ Hid (Below w.heap.size w wr)
theorem dec8_next {w w2 : World} {s : List UInt8} {p : Int} {k f n : Nat} {out add : List Int} {v2 : Value} (hn1 : 1 ≤ n) (hk : k + n ≤ s.length) (hf : (s.drop k).length ≤ f + 1) (hol : out.length ≤ 5 * k) (hal : add.length ≤ 5 * n)
    (he : dec8 p s.length 0 s = pre8 out (dec8 p (f + 1) k (s.drop k))) (hs : dec8 p (f + 1) k (s.drop k) = pre8 add (dec8 p f (k + n) ((s.drop k).drop n)))
    (hF : flt8 w2 w.heap.size 0 0) (hb : Below w.heap.size w w2)
    (ho : w2.ownsRow (w.heap.size + 1) 3 1 v2 (out.length + add.length) (out.map iv ++ add.map iv)) : Dec8Rel w s p v2 (.int .i64 ((k : Int) + (n : Int))) w2 := by
  refine ⟨k + n, f, out ++ add, hk, by congr 1, ?_, by simp; omega, ?_, by simpa using ho, hF, hb⟩
  · rw [List.length_drop] at hf ⊢; omega
  · show dec8 p s.length 0 s = _
    rw [he, hs, pre8_pre8, List.drop_drop]
theorem ext_drop (s : List UInt8) (k : Nat) : (⟨s.toArray⟩ : ByteArray).extract k s.length = ⟨(s.drop k).toArray⟩ := by rw [ByteArray.extract_mk, List.take_of_length_le (by simp)]
theorem ext_part (s : List UInt8) (k n : Nat) : (⟨s.toArray⟩ : ByteArray).extract k (k + n) = ⟨((s.drop k).take n).toArray⟩ := by rw [ByteArray.extract_mk]; congr 3; omega

/-- well-formed -/
def val8 (s : List UInt8) : Bool := decide ((dec8R s 1).2.1 = 0)
end Go.Proofs.YtbcbmmgfdobdiaaDoor
