import Derived.Test.YthpngcfggnhdjaaRows
import Derived.Test.YthpngcfggnhdjaaPlain
import Derived.Test.YthpngcfggnhdjaaWords
import Derived.WalkKit
import Derived.WalkSpells
import Derived.WalkLawsBesides
import Derived.Lib.Hide
namespace Go.Proofs.Ythpngcfggnhdjaa
open Go.RowKit

def fnvI (x : Int) (b : UInt8) : Int := bits BinOp.xor IntKind.u32 x ((b.toNat : Int) % 4294967296) * 16777619 % 4294967296
def fnv (l : List UInt8) : Int := l.foldl fnvI 2166136261
theorem fnv_snoc (l : List UInt8) (b : UInt8) : fnv (l ++ [b]) = bits BinOp.xor IntKind.u32 (fnv l) ((b.toNat : Int) % 4294967296) * 16777619 % 4294967296 := by
  simp [fnv, List.foldl_append, fnvI]
theorem take_snoc (s : ByteArray) (k : Nat) (h : k < s.size) : s.data.toList.take (k + 1) = s.data.toList.take k ++ [s[k]] := by
  rw [List.take_succ_eq_append_getElem (by simpa using h)]; rfl
theorem take_all (s : ByteArray) (k : Nat) (h : ¬ k < s.size) : s.data.toList.take k = s.data.toList :=
  List.take_of_length_le (by simp; omega)

set_option maxHeartbeats 400000 in
theorem sum_any (s : ByteArray) (w : World) (hs : s.size ≤ 1000000) :
    Calls Try.prog 13 #[.string s] w fun e w' => e = .returned (.int .u32 (fnv s.data.toList)) ∧ w = w' := by
  go_enter Try.func13, Try.ntmps13
  go_wp2
  go_loop [3, 4, 7] (fun n i j => ∃ k : Nat, k ≤ s.size ∧ j = .int .i64 k ∧ n = .int .u32 (fnv (s.data.toList.take k))) (fun _ _ i => s.size - (intOf i).toNat)
  case atStart => exact ⟨0, Nat.zero_le _, rfl, rfl⟩
  case round =>
    obtain ⟨k, hk, rfl, rfl⟩ := hrel
    by_cases hlt : k < s.size
    · have H := Lib.hid ((congrArg fnv (take_snoc s k hlt)).trans (fnv_snoc _ _))
      go_wp2
      go_round
      case rel => exact ⟨k + 1, by omega, by go_num, by rw [H.out]⟩
      case measure => simp [intOf]; omega
    · go_wp2
      go_ret
      exact ⟨ret_int (by rw [take_all s k hlt]), rfl⟩

set_option maxHeartbeats 400000 in
theorem refsum_any (s : ByteArray) (w : World) (hs : s.size ≤ 1000000) :
    Calls Try.prog 14 #[.string s] w fun e w' => e = .returned (.int .u32 (fnv s.data.toList)) ∧ w = w' := by
  go_enter Try.func14, Try.ntmps14
  go_wp2
  go_loop [3, 4] (fun n j => ∃ k : Nat, k ≤ s.size ∧ j = .int .i64 k ∧ n = .int .u32 (fnv (s.data.toList.take k))) (fun _ i => s.size - (intOf i).toNat)
  case atStart => exact ⟨0, Nat.zero_le _, rfl, rfl⟩
  case round =>
    obtain ⟨k, hk, rfl, rfl⟩ := hrel
    by_cases hlt : k < s.size
    · have H := Lib.hid ((congrArg fnv (take_snoc s k hlt)).trans (fnv_snoc _ _))
      go_wp2
      go_round
      case rel => exact ⟨k + 1, by omega, by go_num, by rw [H.out]⟩
      case measure => simp [intOf]; omega
    · go_wp2
      go_ret
      exact ⟨ret_int (by rw [take_all s k hlt]), rfl⟩
end Go.Proofs.Ythpngcfggnhdjaa
