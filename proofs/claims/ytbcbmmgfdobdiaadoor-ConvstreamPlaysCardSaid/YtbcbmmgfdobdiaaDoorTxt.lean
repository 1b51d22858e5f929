/- Contracts of the reference's Text, Compare and Equal of layer 1. -/
import Derived.Test.YtbcbmmgfdobdiaaDoorHex
namespace Go.Proofs.YtbcbmmgfdobdiaaDoor
open Go.RowKit

def txt (s : List UInt8) : List Int := s.map fun b => (b.toNat : Int)
theorem Tryd.info3 : (Tryd.prog.info? 3).map (fun i => (i.zero, i.size, i.bytes)) = some (some (.int .i64 0), 1, 8) := by kernel_rfl
theorem txt_snoc (s : List UInt8) (k : Nat) (h : k < s.length) : (txt (s.take (k + 1))).map iv = (txt (s.take k)).map iv ++ [Value.int .i64 (s[k].toNat : Int)] := by
  rw [List.take_succ_eq_append_getElem h]; unfold txt; rw [List.map_append, List.map_append]; rfl
theorem txt_len (s : List UInt8) : (txt s).length = s.length := by simp [txt]

set_option maxRecDepth 100000 in
set_option maxHeartbeats 1000000 in
theorem text_any (s : List UInt8) (w : World) (hs : s.length ≤ 1000000) :
    Calls Tryd.prog 111 #[.string ⟨s.toArray⟩] w fun e w' => ∃ v, e = .returned v ∧ w'.ownsRow w.heap.size 3 1 v s.length ((txt s).map iv) ∧ Below w.heap.size w w' := by
  obtain ⟨i0, hi, hz0, hz1, hz2⟩ := info_parts Tryd.info3
  go_enter Tryd.func111, Tryd.ntmps111
  go_wp2
  go_loopw [3, 4] (fun v i wr => ∃ k : Nat, k ≤ s.length ∧ i = .int .i64 k ∧ wr.ownsRow w.heap.size 3 1 v k ((txt (s.take k)).map iv) ∧ Below w.heap.size w wr) (fun _ i _ => s.length - (intOf i).toNat)
  case atStart => exact ⟨0, Nat.zero_le _, rfl, World.ownsRow_nil _ _ _ _, Below.refl _ _⟩
  case round =>
    obtain ⟨k, hk, rfl, ho, hb⟩ := hrel
    by_cases hlt : k < s.length
    · have Hs := Lib.hid (txt_snoc s k hlt)
      obtain ⟨x, hx⟩ : ∃ x, (⟨s.toArray⟩ : ByteArray)[k].toNat = x := ⟨_, rfl⟩
      have Hx := Lib.hid (show s[k].toNat = x from hx)
      have hx256 : x < 256 := by rw [← Hx.out]; exact s[k].toNat_lt
      go_wp2_with (at_builtin; go_must (refine wpList_app1 rfl (.tmp 11) (.tmp 16) 22 rfl Tryd.underlying22 hi hz0 hz1 hz2 rfl (by omega) wr u3 _ _ rfl ho _ rfl rfl (by omega) hb.size ?_); intro v1 w1 ho1 hB1 _)
      go_roundw
      case rel => exact ⟨k + 1, by omega, by go_num, by rw [Hs.out, Hx.out]; exact ho1, hb.trans hB1⟩
      case measure => simp [intOf]; omega
    · have He := Lib.hid (show s.take k = s from List.take_of_length_le (by omega))
      go_wp2
      go_ret
      exact ⟨u3, rfl, by rw [He.out] at ho; rw [show s.length = k by omega]; exact ho, hb⟩

theorem hexFrom_len : ∀ (f i c : Nat) (acc : List UInt8), (hexFrom f i c acc).length ≤ f + acc.length := by
  intro f
  induction f with
  | zero => intro i c acc; simp [hexFrom]
  | succ f ih => intro i c acc; rw [hexFrom]; split
                 · have := ih (i + 1) (c / 16) (dg (c % 16) :: acc); simp at this; omega
                 · omega
theorem hexB_len (c : Int) : (hexB c).length ≤ 6 := by
  unfold hexB; split
  · have := hexFrom_len 6 0 c.toNat []; simpa using this
  · simp

/-- the lexicographic order -/
def cmpL : List Int → List Int → Int
  | [], [] => 0
  | [], _ :: _ => -1
  | _ :: _, [] => 1
  | a :: l, b :: m => if a < b then -1 else if b < a then 1 else cmpL l m
theorem cmpL_self (l : List Int) : cmpL l l = 0 := by
  induction l with
  | nil => rfl
  | cons a l ih => simp [cmpL, ih]
theorem cmpL_zero : ∀ (l m : List Int), cmpL l m = 0 → l = m := by
  intro l
  induction l with
  | nil => intro m h; cases m with
    | nil => rfl
    | cons => simp [cmpL] at h
  | cons a l ih =>
    intro m h
    cases m with
    | nil => simp [cmpL] at h
    | cons b m =>
      rw [cmpL] at h
      split at h
      · omega
      · split at h
        · omega
        · rw [ih m h, show a = b by omega]
def eqB (l m : List Int) : Bool := decide (l = m)

theorem drop_at {l : List Int} {k : Nat} {x : Int} (h : l[k]? = some x) : l.drop k = x :: l.drop (k + 1) := by
  obtain ⟨a, b⟩ := List.getElem?_eq_some_iff.1 h
  rw [List.drop_eq_getElem_cons a, b]

theorem iv_at {l : List Int} {j : Nat} {u : Value} (h : (l.map iv)[j]? = some u) : ∃ x, l[j]? = some x ∧ u = .int .i64 x := by
  rw [List.getElem?_map] at h
  cases e : l[j]? with
  | none => simp [e] at h
  | some x => simp [e] at h; exact ⟨x, rfl, h.symm⟩

end Go.Proofs.YtbcbmmgfdobdiaaDoor
