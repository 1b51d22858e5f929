/- Which pools are valid: the code's Valid (layer 14) and the reference's; reader.end. -/
import Derived.Test.YthpngcfggnhdjaaPool
import Derived.Deep.QuietTactic
import Derived.BigQuiet
import Derived.Outline
namespace Go.Proofs.Ythpngcfggnhdjaa
open Go.RowKit Go.Proofs.Img

theorem drop_atI {l : List Int} {k : Nat} {x : Int} (h : l[k]? = some x) : l.drop k = x :: l.drop (k + 1) := by
  obtain ⟨a, b⟩ := List.getElem?_eq_some_iff.1 h
  rw [List.drop_eq_getElem_cons a, b]
theorem okP_step {n : Nat} {S L : List Int} {k : Nat} {s l : Int} (h : S[k]? = some s) (h' : L[k]? = some l) : okP n (S.drop k) (L.drop k) = (decide (0 ≤ s ∧ 0 ≤ l ∧ s + l ≤ (n : Int)) && okP n (S.drop (k + 1)) (L.drop (k + 1))) := by
  rw [drop_atI h, drop_atI h', okP]
theorem okP_bad {n : Nat} {S L : List Int} {k : Nat} {s l : Int} (he : okP n S L = okP n (S.drop k) (L.drop k)) (h : S[k]? = some s) (h' : L[k]? = some l) (hb : ¬ (0 ≤ s ∧ 0 ≤ l ∧ s + l ≤ (n : Int))) : okP n S L = false := by
  rw [he, okP_step h h', decide_eq_false hb]; rfl
theorem okP_good {n : Nat} {S L : List Int} {k : Nat} {s l : Int} (he : okP n S L = okP n (S.drop k) (L.drop k)) (h : S[k]? = some s) (h' : L[k]? = some l) (hb : 0 ≤ s ∧ 0 ≤ l ∧ s + l ≤ (n : Int)) : okP n S L = okP n (S.drop (k + 1)) (L.drop (k + 1)) := by
  rw [he, okP_step h h', decide_eq_true hb]; rfl
theorem okP_end {n : Nat} {S L : List Int} {k : Nat} (he : okP n S L = okP n (S.drop k) (L.drop k)) (h : S.length ≤ k) (h' : L.length ≤ k) : okP n S L = true := by
  rw [he, List.drop_of_length_le h, List.drop_of_length_le h']; rfl

set_option maxRecDepth 100000 in
set_option maxHeartbeats 2000000 in
theorem valid_any (A0 A1 A2 : Option Addr) (n0 c0 n1 c1 n2 c2 : Nat) (y z : List Int) (w : World) (h1 : Reads w w.heap.size 1 A1 n1 (y.map iv)) (h2 : Reads w w.heap.size 1 A2 n2 (z.map iv)) (b0 : n0 ≤ 1000000) (b1 : n1 ≤ 1000000) :
    Calls Try.prog 46 #[.agg #[.slice A0 n0 c0, .slice A1 n1 c1, .slice A2 n2 c2]] w fun e w' => e = .returned (.bool (okP n0 y z)) ∧ w' = w.alloc (.cells #[.slice A0 n0 c0, .slice A1 n1 c1, .slice A2 n2 c2] 42) := by
  have ly : y.length = n1 := by have := h1.1; simpa using this
  have lz : z.length = n2 := by have := h2.1; simpa using this
  by_cases hne : n1 = n2
  · subst hne
    have Hy := Lib.hid ly
    have Hz := Lib.hid lz
    have H1 := Lib.hid (h1.alloc (Nat.le_refl _) (.cells #[.slice A0 n0 c0, .slice A1 n1 c1, .slice A2 n1 c2] 42))
    have H2 := Lib.hid (h2.alloc (Nat.le_refl _) (.cells #[.slice A0 n0 c0, .slice A1 n1 c1, .slice A2 n1 c2] 42))
    clear ly lz h1 h2
    go_enter Try.func46, Try.ntmps46
    go_wp2
    go_loop [16] (fun i => ∃ k : Nat, k ≤ n1 ∧ i = .int .i64 (k : Int) ∧ Hid (okP n0 y z = okP n0 (y.drop k) (z.drop k))) (fun i => n1 - (intOf i).toNat)
    case atStart => exact ⟨0, by omega, rfl, rfl⟩
    case round =>
      obtain ⟨k, hk, rfl, He⟩ := hrel
      by_cases hlt : k < n1
      · obtain ⟨a1, u1, rfl, _, hu1, cell1⟩ := H1.out.at_ hlt
        obtain ⟨a2, u2, rfl, _, hu2, cell2⟩ := H2.out.at_ hlt
        obtain ⟨s, hs, rfl⟩ := getElem_map_iv hu1
        obtain ⟨l, hl, rfl⟩ := getElem_map_iv hu2
        clear hu1 hu2
        by_cases q1 : s < 0
        · have H := Lib.hid (okP_bad He.out hs hl (by omega))
          clear hs hl
          go_wp2
          go_ret
          exact ⟨by rw [H.out]; rfl, rfl⟩
        · by_cases q2 : l < 0
          · have H := Lib.hid (okP_bad He.out hs hl (by omega))
            clear hs hl
            go_wp2
            go_ret
            exact ⟨by rw [H.out]; rfl, rfl⟩
          · by_cases q3 : (n0 : Int) < s
            · have H := Lib.hid (okP_bad He.out hs hl (by omega))
              clear hs hl
              go_wp2
              go_ret
              exact ⟨by rw [H.out]; rfl, rfl⟩
            · by_cases q4 : (n0 : Int) - s < l
              · have H := Lib.hid (okP_bad He.out hs hl (by omega))
                clear hs hl
                go_wp2
                go_ret
                exact ⟨by rw [H.out]; rfl, rfl⟩
              · have H := Lib.hid (okP_good He.out hs hl (by omega))
                clear hs hl
                go_wp2
                go_round
                case rel => exact ⟨k + 1, by omega, by go_num, H.out⟩
                case measure => simp [intOf]; omega
      · have H := Lib.hid (okP_end He.out (by rw [Hy.out]; omega) (by rw [Hz.out]; omega))
        go_wp2
        go_ret
        exact ⟨by rw [H.out]; rfl, rfl⟩
  · have H := Lib.hid (okP_false_len n0 y z (by omega))
    have hne' : ((n1 : Int) != (n2 : Int)) = true := by simp; omega
    clear ly lz h1 h2 hne
    go_enter Try.func46, Try.ntmps46
    go_wp2
    go_ret
    exact ⟨by rw [H.out]; rfl, rfl⟩

set_option maxRecDepth 100000 in
set_option maxHeartbeats 4000000 in
theorem refvalid_any (A0 A1 A2 : Option Addr) (n0 c0 n1 c1 n2 c2 : Nat) (y z : List Int) (w : World) (h1 : Reads w w.heap.size 1 A1 n1 (y.map iv)) (h2 : Reads w w.heap.size 1 A2 n2 (z.map iv)) (b0 : n0 ≤ 1000000) (b1 : n1 ≤ 1000000) :
    Calls Try.prog 48 #[.agg #[.slice A0 n0 c0, .slice A1 n1 c1, .slice A2 n2 c2]] w fun e w' => e = .returned (.bool (okP n0 y z)) ∧ Below w.heap.size w w' := by
  have ly : y.length = n1 := by have := h1.1; simpa using this
  have lz : z.length = n2 := by have := h2.1; simpa using this
  by_cases hne : n1 = n2
  · subst hne
    have Hy := Lib.hid ly
    have Hz := Lib.hid lz
    have H1 := Lib.hid (h1.alloc (Nat.le_refl _) (.cells #[.slice A0 n0 c0, .slice A1 n1 c1, .slice A2 n1 c2] 42))
    have H2 := Lib.hid (h2.alloc (Nat.le_refl _) (.cells #[.slice A0 n0 c0, .slice A1 n1 c1, .slice A2 n1 c2] 42))
    have HB := Lib.hid (Blk.new w 42 #[.slice A0 n0 c0, .slice A1 n1 c1, .slice A2 n1 c2])
    have HL := Lib.hid ((Below.refl _ w).alloc (Nat.le_refl _) (.cells #[.slice A0 n0 c0, .slice A1 n1 c1, .slice A2 n1 c2] 42))
    clear ly lz h1 h2
    go_enter Try.func48, Try.ntmps48
    go_wp2_with fail
    obtain ⟨W, hW⟩ : ∃ W, W = w.alloc (.cells #[.slice A0 n0 c0, .slice A1 n1 c1, .slice A2 n1 c2] 42) := ⟨_, rfl⟩
    rw [← hW] at H1 H2 HB HL ⊢
    clear hW
    go_loopw [3] (fun i wr => ∃ k q : Nat, k ≤ n1 ∧ i = .int .i64 (k : Int) ∧ Hid (okP n0 y z = okP n0 (y.drop k) (z.drop k)) ∧ wr = W.drewN q) (fun i _ => n1 - (intOf i).toNat)
    case atStart => exact ⟨0, 0, by omega, rfl, rfl, rfl⟩
    case round =>
      obtain ⟨k, q, hk, rfl, He, rfl⟩ := hrel
      have g0 := HB.out.cell 0
      have g1 := HB.out.cell 1
      have g2 := HB.out.cell 2
      by_cases hlt : k < n1
      · obtain ⟨a1, u1, rfl, _, hu1, cell1⟩ := H1.out.at_ hlt
        obtain ⟨a2, u2, rfl, _, hu2, cell2⟩ := H2.out.at_ hlt
        obtain ⟨s, hs, rfl⟩ := getElem_map_iv hu1
        obtain ⟨l, hl, rfl⟩ := getElem_map_iv hu2
        clear hu1 hu2
        have hk0 : (0 : Int) ≤ (k : Int) := by omega
        have hkn : (k : Int) < (n1 : Int) := by omega
        by_cases q1 : s < 0
        · have H := Lib.hid (okP_bad He.out hs hl (by omega))
          clear hs hl
          go_wp2
          go_quiet (fail)
          go_wp2
          go_ret
          exact ⟨by rw [H.out]; rfl, below_drewN (below_drewN HL.out _) _⟩
        · have q1d : decide (s < 0) = false := by simpa using q1
          by_cases q2 : l < 0
          · have H := Lib.hid (okP_bad He.out hs hl (by omega))
            clear hs hl
            go_wp2
            go_quiet (fail)
            go_wp2
            go_ret
            exact ⟨by rw [H.out]; rfl, below_drewN (below_drewN HL.out _) _⟩
          · have q2d : decide (l < 0) = false := by simpa using q2
            by_cases q3 : (n0 : Int) < l
            · have H := Lib.hid (okP_bad He.out hs hl (by omega))
              clear hs hl
              go_wp2
              go_quiet (fail)
              go_wp2
              go_ret
              exact ⟨by rw [H.out]; rfl, below_drewN (below_drewN HL.out _) _⟩
            · have q3d : decide ((n0 : Int) < l) = false := by simpa using q3
              have qs : IntKind.i64.wrap ((n0 : Int) - l) = (n0 : Int) - l := IntWalk.i64_in _ (by omega)
              by_cases q4 : (n0 : Int) - l < s
              · have H := Lib.hid (okP_bad He.out hs hl (by omega))
                clear hs hl
                go_wp2
                go_quiet (fail)
                clear qs
                go_wp2
                go_ret
                exact ⟨by rw [H.out]; rfl, below_drewN (below_drewN HL.out _) _⟩
              · have H := Lib.hid (okP_good He.out hs hl (by omega))
                have q4d : decide ((n0 : Int) - l < s) = false := by simpa using q4
                clear hs hl
                go_wp2
                go_quiet (fail)
                clear qs
                go_wp2
                go_roundw
                case rel => exact ⟨k + 1, _, by omega, by go_num, H.out, rfl⟩
                case measure => simp [intOf]; omega
      · have H := Lib.hid (okP_end He.out (by rw [Hy.out]; omega) (by rw [Hz.out]; omega))
        go_wp2
        go_ret
        exact ⟨by rw [H.out]; rfl, below_drewN HL.out _⟩
  · have H := Lib.hid (okP_false_len n0 y z (by omega))
    have hne' : ((n1 : Int) != (n2 : Int)) = true := by simp; omega
    clear ly lz h1 h2 hne
    go_enter Try.func48, Try.ntmps48
    go_wp2
    go_ret
    exact ⟨by rw [H.out]; rfl, (Below.refl _ _).alloc (Nat.le_refl _) _⟩

set_option maxHeartbeats 1000000 in
theorem end_ok (l : List UInt8) (at_ b : Nat) (w : World) (hr : Rdr w b l at_) (h : at_ = l.length) :
    Calls Try.prog 45 #[.pointer (some ⟨b, 0, none⟩)] w fun e w' => e = .returned (.tuple #[]) ∧ ∃ q, w' = w.drewN q := by
  have c0 := hr.cell 0
  have c1 := hr.cell 1
  have hne : ((at_ : Int) != (l.length : Int)) = false := by simp; omega
  clear hr h
  go_enter Try.func45, Try.ntmps45
  go_wp2
  go_quiet (fail)
  go_wp2
  go_end0
  exact ⟨rfl, _, rfl⟩
set_option maxHeartbeats 1000000 in
theorem end_err (l : List UInt8) (at_ b : Nat) (w : World) (hr : Rdr w b l at_) (h : at_ ≠ l.length) :
    Calls Try.prog 45 #[.pointer (some ⟨b, 0, none⟩)] w fun e w' => e = .panicked (stopV 2) ∧ Below w.heap.size w w' := by
  have c0 := hr.cell 0
  have c1 := hr.cell 1
  have hne : ((at_ : Int) != (l.length : Int)) = true := by simp; omega
  clear hr h
  go_enter Try.func45, Try.ntmps45
  go_wp2
  go_quiet (fail)
  go_wp2
  exact ⟨rfl, rfl, below_drewN (Below.refl _ _) _⟩
end Go.Proofs.Ythpngcfggnhdjaa
