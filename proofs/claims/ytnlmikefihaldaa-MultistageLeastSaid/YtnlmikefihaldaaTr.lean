/- The reference's tables: bits, same, first. -/
import Derived.Test.YtnlmikefihaldaaTv
namespace Go.Proofs.Ytnlmikefihaldaa
open Go.RowKit

theorem take_all_mem {l : List Int} {k : Nat} {x : Int} {p : Int → Prop} (hx : l[k]? = some x) (hk : ∀ y ∈ l.take k, p y) (h : p x) : ∀ y ∈ l.take (k + 1), p y := by
  intro y hy
  obtain ⟨hkl, he⟩ := List.getElem?_eq_some_iff.1 hx
  rw [List.take_succ_eq_append_getElem hkl, he] at hy
  rcases List.mem_append.1 hy with hy | hy
  · exact hk y hy
  · simp at hy; subst hy; exact h

def bitsV (ws : List Int) : Int := if okW ws then ws.sum else 0
set_option maxRecDepth 100000 in
set_option maxHeartbeats 2000000 in
theorem bits_any (A : Option Addr) (n c : Nat) (l : List Int) (w : World) (h : Reads w w.heap.size 1 A n (l.map iv)) (hn : n ≤ 1000000000) :
    Calls Try.prog 38 #[.slice A n c] w fun e w' => e = .returned (.int .i64 (bitsV l)) ∧ w' = w := by
  have hl : l.length = n := by have := h.1; simpa using this
  by_cases h1 : n < 1
  · have H := Lib.hid (show bitsV l = 0 from if_neg (by intro ho; have := ho.1; omega))
    clear hl
    go_enter Try.func38, Try.ntmps38
    go_wp2
    go_ret
    exact ⟨by rw [H.out]; rfl, rfl⟩
  · by_cases h3 : 3 < n
    · have H := Lib.hid (show bitsV l = 0 from if_neg (by intro ho; have := ho.2.1; omega))
      clear hl
      go_enter Try.func38, Try.ntmps38
      go_wp2
      go_ret
      exact ⟨by rw [H.out]; rfl, rfl⟩
    · have Hl := Lib.hid hl
      clear hl
      go_enter Try.func38, Try.ntmps38
      go_wp2
      go_loop [3, 4] (fun v j => ∃ k : Nat, k ≤ n ∧ j = .int .i64 k ∧ v = .int .i64 (l.take k).sum ∧ Hid (∀ x ∈ l.take k, 1 ≤ x ∧ x ≤ 12)) (fun _ j => n - (intOf j).toNat)
      case atStart => exact ⟨0, Nat.zero_le _, rfl, by simp, by show ∀ x ∈ _, _; simp⟩
      case round =>
        obtain ⟨k, hk, rfl, rfl, Hk⟩ := hrel
        have hsb := sum_bounds Hk.out
        have hsl : (l.take k).length ≤ 3 := by rw [List.length_take]; omega
        have hsd : 0 ≤ (l.take k).sum ∧ (l.take k).sum ≤ 36 := by omega
        obtain ⟨hs1, hs2⟩ := hsd
        clear hsb hsl
        by_cases hlt : k < n
        · obtain ⟨ad, u, rfl, hadB, hu, hcell⟩ := h.at_ hlt
          obtain ⟨x, hx, rfl⟩ := getElem_map_iv' hu
          clear hu
          by_cases q : 1 ≤ x ∧ x ≤ 12
          · have Hk2 : Hid (∀ y ∈ l.take (k + 1), 1 ≤ y ∧ y ≤ 12) := take_all_mem hx Hk.out q
            have Hs := Lib.hid (sum_snoc hx)
            obtain ⟨q1, q2⟩ := q
            clear hx
            go_wp2
            go_round
            case rel => exact ⟨k + 1, by omega, by go_num, by rw [Hs.out], Hk2⟩
            case measure => simp [intOf]; omega
          · have H := Lib.hid (show bitsV l = 0 from if_neg (fun ho => q (ho.2.2.1 x (List.mem_of_getElem? hx))))
            clear hx
            by_cases q1 : x < 1
            · go_wp2
              go_ret
              exact ⟨by rw [H.out]; rfl, rfl⟩
            · have q2 : 12 < x := by omega
              clear q
              go_wp2
              go_ret
              exact ⟨by rw [H.out]; rfl, rfl⟩
        · have he : l.take k = l := List.take_of_length_le (by have := Hl.out; omega)
          rw [he] at Hk hs1 hs2 ⊢
          have H := Lib.hid (show bitsV l = if 9 ≤ l.sum ∧ l.sum ≤ 16 then l.sum else 0 by
            unfold bitsV
            by_cases hq : 9 ≤ l.sum ∧ l.sum ≤ 16
            · rw [if_pos hq, if_pos ⟨by have := Hl.out; omega, by have := Hl.out; omega, Hk.out, hq⟩]
            · rw [if_neg hq, if_neg (fun ho => hq ho.2.2.2)])
          clear he
          by_cases q9 : l.sum < 9
          · have H2 := Lib.hid (H.out.trans (if_neg (by omega)))
            go_wp2
            go_ret
            exact ⟨by rw [H2.out]; rfl, rfl⟩
          · by_cases q16 : 16 < l.sum
            · have H2 := Lib.hid (H.out.trans (if_neg (by omega)))
              go_wp2
              go_ret
              exact ⟨by rw [H2.out]; rfl, rfl⟩
            · have H2 := Lib.hid (H.out.trans (if_pos (by omega)))
              go_wp2
              go_ret
              exact ⟨by rw [H2.out]; rfl, rfl⟩

theorem take_step {a b : List Int} {k : Nat} {x y : Int} (ha : a[k]? = some x) (hb : b[k]? = some y) (h : a.take k = b.take k) : (a.take (k + 1) = b.take (k + 1)) ↔ x = y := by
  obtain ⟨ha1, ha2⟩ := List.getElem?_eq_some_iff.1 ha
  obtain ⟨hb1, hb2⟩ := List.getElem?_eq_some_iff.1 hb
  rw [List.take_succ_eq_append_getElem ha1, List.take_succ_eq_append_getElem hb1, ha2, hb2, h]
  simp

set_option maxRecDepth 100000 in
set_option maxHeartbeats 2000000 in
theorem sameT_any (A A' : Option Addr) (n c n' c' : Nat) (a b : List Int) (w : World) (h : Reads w w.heap.size 1 A n (a.map iv)) (h' : Reads w w.heap.size 1 A' n' (b.map iv)) (hn : n ≤ 1000000000) (hn' : n' ≤ 1000000000) :
    Calls Try.prog 43 #[.slice A n c, .slice A' n' c'] w fun e w' => Says e (a = b) ∧ ∃ q, w' = w.drewN q := by
  have la : a.length = n := by have := h.1; simpa using this
  have lb : b.length = n' := by have := h'.1; simpa using this
  by_cases hne : n = n'
  · subst hne
    have Ha := Lib.hid la
    have Hb := Lib.hid lb
    clear la lb
    go_enter Try.func43, Try.ntmps43
    go_wp2
    go_loopw [5] (fun i wr => ∃ k q : Nat, k ≤ n ∧ i = .int .i64 (k : Int) ∧ Hid (a.take k = b.take k) ∧ wr = w.drewN q) (fun i _ => n - (intOf i).toNat)
    case atStart => exact ⟨0, 0, by omega, rfl, rfl, rfl⟩
    case round =>
      obtain ⟨k, q, hk, rfl, He, rfl⟩ := hrel
      by_cases hlt : k < n
      · obtain ⟨a1, u1, rfl, _, hu1, cell1⟩ := h.at_ hlt
        obtain ⟨a2, u2, rfl, _, hu2, cell2⟩ := h'.at_ hlt
        obtain ⟨s, hs, rfl⟩ := getElem_map_iv' hu1
        obtain ⟨l, hl, rfl⟩ := getElem_map_iv' hu2
        clear hu1 hu2
        have hk0 : (0 : Int) ≤ (k : Int) := by omega
        have hkn : (k : Int) < (n : Int) := by omega
        by_cases q1 : s = l
        · have H := Lib.hid ((take_step hs hl He.out).2 q1)
          subst q1
          clear hs hl
          go_wp2
          go_quiet (fail)
          go_wp2
          go_roundw
          case rel => exact ⟨k + 1, _, by omega, by go_num, H.out, rfl⟩
          case measure => simp [intOf]; omega
        · have H := Lib.hid (show ¬ a = b from fun e => q1 ((take_step hs hl He.out).1 (by rw [e])))
          have q1d : (s != l) = true := bne_iff_ne.2 q1
          clear hs hl q1
          go_wp2
          go_quiet (fail)
          go_wp2
          go_ret
          exact ⟨Says.no rfl H.out, _, World.drewN_drewN _ _ _⟩
      · have H := Lib.hid (show a = b by
          have := He.out
          rw [List.take_of_length_le (by have := Ha.out; omega), List.take_of_length_le (by have := Hb.out; omega)] at this
          exact this)
        go_wp2
        go_ret
        exact ⟨Says.yes rfl H.out, _, rfl⟩
  · have H := Lib.hid (show ¬ a = b from fun e => hne (by rw [← la, ← lb, e]))
    have hne' : ((n : Int) != (n' : Int)) = true := bne_iff_ne.2 (by omega)
    clear la lb hne
    go_enter Try.func43, Try.ntmps43
    go_wp2
    go_ret
    exact ⟨Says.no rfl H.out, 0, rfl⟩

theorem scan_not {l : List Int} {m k : Nat} {x : Int} (h : l[k]? = some x) (hm : (m : Int) ≤ x) : scan 0 l ≠ some m := by
  intro e
  have hx := scan_range e x (List.mem_of_getElem? h)
  omega

set_option maxRecDepth 100000 in
set_option maxHeartbeats 2000000 in
theorem first_any (A : Option Addr) (n c m : Nat) (a : List Int) (w : World) (h : Reads w w.heap.size 1 A n (a.map iv)) (hn : n ≤ 1000000000) (hm : m ≤ 1000000000) :
    Calls Try.prog 45 #[.slice A n c, .int .i64 (m : Int)] w fun e w' => Says e (scan 0 a = some m) ∧ w' = w := by
  have la : a.length = n := by have := h.1; simpa using this
  have Ha := Lib.hid la
  clear la
  go_enter Try.func45, Try.ntmps45
  go_wp2
  go_loop [5, 6] (fun v i => ∃ t k : Nat, k ≤ n ∧ t ≤ k ∧ v = .int .i64 (t : Int) ∧ i = .int .i64 (k : Int) ∧ Hid (scan 0 a = scan t (a.drop k))) (fun _ i => n - (intOf i).toNat)
  case atStart => exact ⟨0, 0, by omega, by omega, rfl, rfl, rfl⟩
  case round =>
    obtain ⟨t, k, hk, htk, rfl, rfl, He⟩ := hrel
    by_cases hlt : k < n
    · obtain ⟨ad, u, rfl, _, hu, hcell⟩ := h.at_ hlt
      obtain ⟨x, hx, rfl⟩ := getElem_map_iv' hu
      clear hu
      by_cases q1 : x < 0
      · have H := Lib.hid (show ¬ scan 0 a = some m by rw [scan_bad He.out hx (Or.inl q1)]; intro e; cases e)
        clear hx
        go_wp2
        go_ret
        exact ⟨Says.no rfl H.out, rfl⟩
      · by_cases q2 : (t : Int) < x
        · have H := Lib.hid (show ¬ scan 0 a = some m by rw [scan_bad He.out hx (Or.inr q2)]; intro e; cases e)
          clear hx
          go_wp2
          go_ret
          exact ⟨Says.no rfl H.out, rfl⟩
        · by_cases q4 : (m : Int) ≤ x
          · have H := Lib.hid (show ¬ scan 0 a = some m from scan_not hx q4)
            clear hx
            go_wp2
            go_ret
            exact ⟨Says.no rfl H.out, rfl⟩
          · by_cases q3 : x = (t : Int)
            · have H := Lib.hid (scan_new He.out hx q3)
              subst q3
              clear hx
              go_wp2
              go_round
              case rel => exact ⟨t + 1, k + 1, by omega, by omega, by go_num, by go_num, H.out⟩
              case measure => simp [intOf]; omega
            · have H := Lib.hid (scan_old He.out hx (by omega) (by omega))
              have q3d : (x == (t : Int)) = false := by simpa using q3
              clear hx
              go_wp2
              go_round
              case rel => exact ⟨t, k + 1, by omega, by omega, rfl, by go_num, H.out⟩
              case measure => simp [intOf]; omega
    · have Hsc := Lib.hid (scan_end He.out (by have := Ha.out; omega))
      by_cases q : t = m
      · subst q
        go_wp2
        go_ret
        exact ⟨Says.yes (by simp) Hsc.out, rfl⟩
      · have qd : ((t : Int) == (m : Int)) = false := by simp; omega
        have H := Lib.hid (show ¬ scan 0 a = some m by rw [Hsc.out]; intro e; injection e with e; exact q e)
        clear q
        go_wp2
        go_ret
        exact ⟨Says.no rfl H.out, rfl⟩
end Go.Proofs.Ytnlmikefihaldaa
