/- The references of layers 6 and 7: Byte, Check, Guess. -/
import Derived.Test.YtbcbmmgfdobdiaaDoorK9
import Derived.Test.YtbcbmmgfdobdiaaDoorR16P
import Derived.Test.YtbcbmmgfdobdiaaDoorR8E
import Derived.Test.YtbcbmmgfdobdiaaDoorR8S
namespace Go.Proofs.YtbcbmmgfdobdiaaDoor
open Go.RowKit

set_option maxRecDepth 100000 in
set_option maxHeartbeats 2000000 in
theorem rguess_any (s : List UInt8) (w : World) (_hs : s.length ≤ 1000000) :
    Calls Tryd.prog 31 #[.string ⟨s.toArray⟩] w fun e w' => e = .returned (.tuple #[.int .i64 (guessR s).1, .int .i64 (guessR s).2]) ∧ w' = w := by
  have sh : ∀ p : List UInt8, ¬ p.length ≤ s.length → pfx p s = false := fun p hl => by
    apply Bool.eq_false_iff.2
    intro h
    have h := congrArg List.length (eq_of_beq h)
    simp at h; omega
  have ex : ∀ n : Nat, (⟨s.toArray⟩ : ByteArray).extract 0 n = ⟨(s.take n).toArray⟩ := fun n => by apply ByteArray.ext; simp
  have e3 := ex 3
  have e2 := ex 2
  have p1 : ∀ b, pfx [239, 187, 191] s = b → (List.take 3 s == [239, 187, 191]) = b := fun b h => h
  have p2 : ∀ b, pfx [254, 255] s = b → (List.take 2 s == [254, 255]) = b := fun b h => h
  have p3 : ∀ b, pfx [255, 254] s = b → (List.take 2 s == [255, 254]) = b := fun b h => h
  have E : ∀ x y : Int, guessR s = (x, y) → Ending.returned (.tuple #[.int .i64 x, .int .i64 y]) = Ending.returned (.tuple #[.int .i64 (guessR s).1, .int .i64 (guessR s).2]) := fun x y h => by rw [h]
  have HE := Lib.hid E
  clear ex E
  by_cases h3 : 3 ≤ s.length
  · have h3' : (3 : Int) ≤ (s.length : Int) := by omega
    have h2 : 2 ≤ s.length := by omega
    have h2' : (2 : Int) ≤ (s.length : Int) := by omega
    clear sh
    cases b1 : pfx [239, 187, 191] s with
    | true =>
      have q1 := p1 _ b1
      have R := HE.out 1 3 (by simp [guessR, b1])
      have HR := Lib.hid R
      clear R p1 p2 p3 b1 HE
      go_enter Tryd.func31, Tryd.ntmps31
      go_wp2
      exact bodyPost_ret (v := .tuple #[.int .i64 1, .int .i64 3]) (by simp [results, Tryd.results31, go_sem]) rfl ⟨HR.out, rfl⟩
    | false =>
      have q1 := p1 _ b1
      cases b2 : pfx [254, 255] s with
      | true =>
        have q2 := p2 _ b2
        have R := HE.out 2 2 (by simp [guessR, b1, b2])
        have HR := Lib.hid R
        clear R p1 p2 p3 b1 b2 HE
        go_enter Tryd.func31, Tryd.ntmps31
        go_wp2
        exact bodyPost_ret (v := .tuple #[.int .i64 2, .int .i64 2]) (by simp [results, Tryd.results31, go_sem]) rfl ⟨HR.out, rfl⟩
      | false =>
        have q2 := p2 _ b2
        cases b3 : pfx [255, 254] s with
        | true =>
          have q3 := p3 _ b3
          have R := HE.out 3 2 (by simp [guessR, b1, b2, b3])
          have HR := Lib.hid R
          clear R p1 p2 p3 b1 b2 b3 HE
          go_enter Tryd.func31, Tryd.ntmps31
          go_wp2
          exact bodyPost_ret (v := .tuple #[.int .i64 3, .int .i64 2]) (by simp [results, Tryd.results31, go_sem]) rfl ⟨HR.out, rfl⟩
        | false =>
          have q3 := p3 _ b3
          have R := HE.out 0 0 (by simp [guessR, b1, b2, b3])
          have HR := Lib.hid R
          clear R p1 p2 p3 b1 b2 b3 HE
          go_enter Tryd.func31, Tryd.ntmps31
          go_wp2
          exact bodyPost_ret (v := .tuple #[.int .i64 0, .int .i64 0]) (by simp [results, Tryd.results31, go_sem]) rfl ⟨HR.out, rfl⟩
  · have h3' : ¬ (3 : Int) ≤ (s.length : Int) := by omega
    have b1 := sh [239, 187, 191] (by simpa using h3)
    by_cases h2 : 2 ≤ s.length
    · have h2' : (2 : Int) ≤ (s.length : Int) := by omega
      clear sh h3
      cases b2 : pfx [254, 255] s with
      | true =>
        have q2 := p2 _ b2
        have R := HE.out 2 2 (by simp [guessR, b1, b2])
        have HR := Lib.hid R
        clear R p1 p2 p3 b1 b2 HE
        go_enter Tryd.func31, Tryd.ntmps31
        go_wp2
        exact bodyPost_ret (v := .tuple #[.int .i64 2, .int .i64 2]) (by simp [results, Tryd.results31, go_sem]) rfl ⟨HR.out, rfl⟩
      | false =>
        have q2 := p2 _ b2
        cases b3 : pfx [255, 254] s with
        | true =>
          have q3 := p3 _ b3
          have R := HE.out 3 2 (by simp [guessR, b1, b2, b3])
          have HR := Lib.hid R
          clear R p1 p2 p3 b1 b2 b3 HE
          go_enter Tryd.func31, Tryd.ntmps31
          go_wp2
          exact bodyPost_ret (v := .tuple #[.int .i64 3, .int .i64 2]) (by simp [results, Tryd.results31, go_sem]) rfl ⟨HR.out, rfl⟩
        | false =>
          have q3 := p3 _ b3
          have R := HE.out 0 0 (by simp [guessR, b1, b2, b3])
          have HR := Lib.hid R
          clear R p1 p2 p3 b1 b2 b3 HE
          go_enter Tryd.func31, Tryd.ntmps31
          go_wp2
          exact bodyPost_ret (v := .tuple #[.int .i64 0, .int .i64 0]) (by simp [results, Tryd.results31, go_sem]) rfl ⟨HR.out, rfl⟩
    · have h2' : ¬ (2 : Int) ≤ (s.length : Int) := by omega
      have b2 := sh [254, 255] (by simpa using h2)
      have b3 := sh [255, 254] (by simpa using h2)
      have R := HE.out 0 0 (by simp [guessR, b1, b2, b3])
      have HR := Lib.hid R
      clear R p1 p2 p3 b1 b2 b3 HE sh h2 h3
      go_enter Tryd.func31, Tryd.ntmps31
      go_wp2
      exact bodyPost_ret (v := .tuple #[.int .i64 0, .int .i64 0]) (by simp [results, Tryd.results31, go_sem]) rfl ⟨HR.out, rfl⟩

/-- what ref06.Byte returns -/
def byteI (codes : List Int) (x : Int) : Int := if x < 0 then -1 else ((placeOf codes x).map fun i => (i : Int)).getD (-1)
theorem byteI_hit {codes : List Int} {k : Nat} {x : Int} (hx : 0 ≤ x) (hk : codes[k]? = some x) (hn : x ∉ codes.take k) : byteI codes x = (k : Int) := by
  have : placeOf codes x = some k := by
    unfold placeOf
    rw [List.findIdx?_eq_some_iff_getElem]
    obtain ⟨h1, h2⟩ := List.getElem?_eq_some_iff.1 hk
    refine ⟨h1, by simp [h2], fun j hj => ?_⟩
    have hj1 : j < codes.length := by omega
    simp only [decide_eq_true_eq]
    intro he
    exact hn (idx_take hj (by rw [List.getElem?_eq_getElem hj1, he]))
  rw [byteI, if_neg (by omega), this]; rfl
theorem byteI_miss {codes : List Int} {x : Int} (hn : x ∉ codes ∨ x < 0) : byteI codes x = -1 := by
  unfold byteI
  by_cases hx : x < 0
  · rw [if_pos hx]
  · have : placeOf codes x = none := by
      unfold placeOf
      rw [List.findIdx?_eq_none_iff]
      intro y hy
      simp only [decide_eq_false_iff_not]
      rintro rfl
      exact hn.elim (fun h => h hy) (fun h => hx h)
    rw [if_neg hx, this]; rfl

set_option maxRecDepth 100000 in
set_option maxHeartbeats 2000000 in
theorem rbyte_any (A : Option Addr) (n c : Nat) (codes : List Int) (x : Int) (w : World) (h : Reads w w.heap.size 1 A n (codes.map iv)) (hn : n ≤ 1000000) :
    Calls Tryd.prog 68 #[.agg #[.slice A n c], .int .i64 x] w fun e w' => e = .returned (.int .i64 (byteI codes x)) ∧ Below w.heap.size w w' := by
  have hl : codes.length = n := by have := h.1; simpa using this
  have HB := Lib.hid (Blk.new w 24 #[.slice A n c])
  have hL := below_new w (.cells #[.slice A n c] 24)
  have HL := Lib.hid hL
  have HR := Lib.hid (h.stay hL)
  have Hl := Lib.hid hl
  have g0 := HB.out.cell 0
  clear hL h hl
  go_enter Tryd.func68, Tryd.ntmps68
  go_wp2
  obtain ⟨W, hW⟩ : ∃ W, W = w.alloc (.cells #[.slice A n c] 24) := ⟨_, rfl⟩
  rw [← hW] at HB HL HR g0 ⊢
  clear hW
  go_loop [5] (fun i => ∃ k : Nat, k ≤ n ∧ i = .int .i64 (k : Int) ∧ Hid (x < 0 ∨ x ∉ codes.take k)) (fun i => n - (intOf i).toNat)
  case atStart => exact ⟨0, by omega, rfl, Lib.hid (Or.inr (by simp))⟩
  case round =>
    obtain ⟨k, hk, rfl, Hk⟩ := hrel
    by_cases hlt : k < n
    · have hlt' : (k : Int) < (n : Int) := by omega
      obtain ⟨ad, u, rfl, _, hu, hcell⟩ := HR.out.at_ hlt
      obtain ⟨y, hy, rfl⟩ := iv_at hu
      clear hu
      by_cases hx : (0 : Int) ≤ x
      · by_cases hyx : y = x
        · subst hyx
          have He := Lib.hid (byteI_hit hx hy (Hk.out.elim (fun h => absurd h (by omega)) id))
          clear hy
          go_wp2
          go_ret
          exact ⟨by rw [He.out]; rfl, HL.out⟩
        · have hyx' : (y == x) = false := by simpa using hyx
          have H : Hid (x < 0 ∨ x ∉ codes.take (k + 1)) := Lib.hid (Or.inr (by
            obtain ⟨hkl, he⟩ := List.getElem?_eq_some_iff.1 hy
            rw [List.take_succ_eq_append_getElem hkl, he, List.mem_append]
            rintro (h | h)
            · exact Hk.out.elim (fun h' => absurd h' (by omega)) (fun h' => h' h)
            · simp at h; exact hyx h.symm))
          clear hy hyx
          go_wp2
          go_round
          case rel => exact ⟨k + 1, by omega, by go_num, H⟩
          case measure => simp [intOf]; omega
      · have H : Hid (x < 0 ∨ x ∉ codes.take (k + 1)) := Lib.hid (Or.inl (by omega))
        clear hy
        go_wp2
        go_round
        case rel => exact ⟨k + 1, by omega, by go_num, H⟩
        case measure => simp [intOf]; omega
    · have He := Lib.hid (byteI_miss (codes := codes) (x := x) (Hk.out.elim Or.inr (fun h => Or.inl (by rwa [List.take_of_length_le (by have := Hl.out; omega)] at h))))
      have hlt' : ¬ (k : Int) < (n : Int) := by omega
      go_wp2
      go_ret
      exact ⟨by rw [He.out]; rfl, HL.out⟩
end Go.Proofs.YtbcbmmgfdobdiaaDoor
