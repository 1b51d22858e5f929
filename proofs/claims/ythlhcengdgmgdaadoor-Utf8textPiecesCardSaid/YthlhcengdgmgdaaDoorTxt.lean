/- Contracts of the reference's Text, Compare and Equal of layer 1. -/
import Derived.Test.YthlhcengdgmgdaaDoorHex
namespace Go.Proofs.YthlhcengdgmgdaaDoor
open Go.RowKit

def txt (s : List UInt8) : List Int := s.map fun b => (b.toNat : Int)
theorem Tryd.info3 : (Tryd.prog.info? 3).map (fun i => (i.zero, i.size, i.bytes)) = some (some (.int .i64 0), 1, 8) := by kernel_rfl
theorem txt_snoc (s : List UInt8) (k : Nat) (h : k < s.length) : (txt (s.take (k + 1))).map iv = (txt (s.take k)).map iv ++ [Value.int .i64 (s[k].toNat : Int)] := by
  rw [List.take_succ_eq_append_getElem h]; unfold txt; rw [List.map_append, List.map_append]; rfl
theorem txt_len (s : List UInt8) : (txt s).length = s.length := by simp [txt]


theorem hexFrom_len : ∀ (f i c : Nat) (acc : List UInt8), (hexFrom f i c acc).length ≤ f + acc.length := by
  intro f
  induction f with
  | zero => intro i c acc; simp [hexFrom]
  | succ f ih => intro i c acc; rw [hexFrom]; split
                 · have := ih (i + 1) (c / 16) (dg (c % 16) :: acc); simp at this; omega
                 · omega
theorem hexB_len (c : Int) : (hexB c).length ≤ 6 := by
  unfold hexB; split
  · have := hexFrom_len 6 0 c.toNat []; simpa using this
  · simp

/-- the lexicographic order -/
def cmpL : List Int → List Int → Int
  | [], [] => 0
  | [], _ :: _ => -1
  | _ :: _, [] => 1
  | a :: l, b :: m => if a < b then -1 else if b < a then 1 else cmpL l m
theorem cmpL_self (l : List Int) : cmpL l l = 0 := by
  induction l with
  | nil => rfl
  | cons a l ih => simp [cmpL, ih]
theorem cmpL_zero : ∀ (l m : List Int), cmpL l m = 0 → l = m := by
  intro l
  induction l with
  | nil => intro m h; cases m with
    | nil => rfl
    | cons => simp [cmpL] at h
  | cons a l ih =>
    intro m h
    cases m with
    | nil => simp [cmpL] at h
    | cons b m =>
      rw [cmpL] at h
      split at h
      · omega
      · split at h
        · omega
        · rw [ih m h, show a = b by omega]
def eqB (l m : List Int) : Bool := decide (l = m)

theorem drop_at {l : List Int} {k : Nat} {x : Int} (h : l[k]? = some x) : l.drop k = x :: l.drop (k + 1) := by
  obtain ⟨a, b⟩ := List.getElem?_eq_some_iff.1 h
  rw [List.drop_eq_getElem_cons a, b]

theorem iv_at {l : List Int} {j : Nat} {u : Value} (h : (l.map iv)[j]? = some u) : ∃ x, l[j]? = some x ∧ u = .int .i64 x := by
  rw [List.getElem?_map] at h
  cases e : l[j]? with
  | none => simp [e] at h
  | some x => simp [e] at h; exact ⟨x, rfl, h.symm⟩

set_option maxRecDepth 100000 in
set_option maxHeartbeats 1000000 in
theorem compare_any (B n c n' c' : Nat) (A A' : Option Addr) (l m : List Int) (w : World) (h : Reads w B 1 A n (l.map iv)) (h' : Reads w B 1 A' n' (m.map iv)) (hn : n ≤ 1000000) :
    Calls Tryd.prog 25 #[.slice A n c, .slice A' n' c'] w fun e w' => e = .returned (.int .i64 (cmpL l m)) ∧ ∃ q, w' = w.drewN q := by
  have hl : l.length = n := by have := h.1; simpa using this
  have hm : m.length = n' := by have := h'.1; simpa using this
  have Hl := Lib.hid hl
  have Hm := Lib.hid hm
  clear hl hm
  go_enter Tryd.func25, Tryd.ntmps25
  go_wp2
  go_loopw [5] (fun i wr => ∃ k q : Nat, k ≤ n ∧ k ≤ n' ∧ i = .int .i64 k ∧ Hid (cmpL l m = cmpL (l.drop k) (m.drop k)) ∧ wr = w.drewN q) (fun i _ => n - (intOf i).toNat)
  case atStart => exact ⟨0, 0, Nat.zero_le _, Nat.zero_le _, rfl, rfl, rfl⟩
  case round =>
    obtain ⟨k, q, hk, hk', rfl, He, rfl⟩ := hrel
    by_cases hlt : k < n
    · by_cases hlt' : k < n'
      · obtain ⟨ad, u, rfl, hadB, hu, hcell⟩ := h.at_ hlt
        obtain ⟨ad', u', rfl, hadB', hu', hcell'⟩ := h'.at_ hlt'
        obtain ⟨x, hx, rfl⟩ := iv_at hu
        obtain ⟨x', hx', rfl⟩ := iv_at hu'
        have Hd := Lib.hid (drop_at hx)
        have Hd' := Lib.hid (drop_at hx')
        clear hu hu' hx hx'
        rcases Int.lt_trichotomy x x' with hxx | hxx | hxx
        · have Hs := Lib.hid (show cmpL l m = -1 by rw [He.out, Hd.out, Hd'.out, cmpL, if_pos hxx])
          go_wp2
          go_quiet (fail)
          go_wp2
          go_ret
          exact ⟨ret_int Hs.out.symm, _, World.drewN_drewN _ _ _⟩
        · subst hxx
          have Hs := Lib.hid (show cmpL l m = cmpL (l.drop (k + 1)) (m.drop (k + 1)) by rw [He.out, Hd.out, Hd'.out, cmpL, if_neg (by omega), if_neg (by omega)])
          go_wp2
          go_quiet (fail)
          go_wp2
          go_quiet (fail)
          go_wp2
          go_roundw
          case rel => exact ⟨k + 1, _, by omega, by omega, by go_num, Hs.out, rfl⟩
          case measure => simp [intOf]; omega
        · have hnx : ¬ x < x' := by omega
          have Hs := Lib.hid (show cmpL l m = 1 by rw [He.out, Hd.out, Hd'.out, cmpL, if_neg hnx, if_pos hxx])
          go_wp2
          go_quiet (fail)
          go_wp2
          go_quiet (fail)
          go_wp2
          go_ret
          exact ⟨ret_int Hs.out.symm, _, by simp [World.drewN_drewN, Nat.add_assoc]; rfl⟩
      · have Hs := Lib.hid (show cmpL l m = 1 by
          rw [He.out, List.drop_eq_getElem_cons (show k < l.length by rw [Hl.out]; omega), List.drop_of_length_le (show m.length ≤ k by rw [Hm.out]; omega)]; rfl)
        go_wp2
        go_ret
        exact ⟨ret_int Hs.out.symm, _, rfl⟩
    · by_cases hlt' : k < n'
      · have Hs := Lib.hid (show cmpL l m = -1 by
          rw [He.out, List.drop_eq_getElem_cons (show k < m.length by rw [Hm.out]; omega), List.drop_of_length_le (show l.length ≤ k by rw [Hl.out]; omega)]; rfl)
        go_wp2
        go_ret
        exact ⟨ret_int Hs.out.symm, _, rfl⟩
      · have Hs := Lib.hid (show cmpL l m = 0 by
          rw [He.out, List.drop_of_length_le (show m.length ≤ k by rw [Hm.out]; omega), List.drop_of_length_le (show l.length ≤ k by rw [Hl.out]; omega)]; rfl)
        go_wp2
        go_ret
        exact ⟨ret_int Hs.out.symm, _, rfl⟩

theorem equal_any (B n c n' c' : Nat) (A A' : Option Addr) (l m : List Int) (w : World) (h : Reads w B 1 A n (l.map iv)) (h' : Reads w B 1 A' n' (m.map iv)) (hn : n ≤ 1000000) :
    Calls Tryd.prog 22 #[.slice A n c, .slice A' n' c'] w fun e w' => e = .returned (.bool (eqB l m)) ∧ ∃ q, w' = w.drewN q := by
  have He : Hid ((cmpL l m == 0) = eqB l m) := by
    show (cmpL l m == 0) = eqB l m
    by_cases e : l = m
    · subst e; simp [eqB, cmpL_self]
    · have : cmpL l m ≠ 0 := fun h0 => e (cmpL_zero _ _ h0)
      simp [eqB, e, this]
  have Hc := Lib.hid (compare_any B n c n' c' A A' l m w h h' hn)
  clear h h'
  go_enter Tryd.func22, Tryd.ntmps22
  go_wp2_with fail
  refine Hc.out.mono ?_
  rintro e w1 ⟨rfl, q, rfl⟩
  go_wp2
  go_ret
  exact ⟨ret_bool He.out, _, rfl⟩
end Go.Proofs.YthlhcengdgmgdaaDoor
