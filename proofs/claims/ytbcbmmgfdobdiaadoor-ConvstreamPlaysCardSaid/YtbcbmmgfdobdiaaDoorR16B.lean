/- The reference of layer 4: high, low, Begin. -/
import Derived.Test.YtbcbmmgfdobdiaaDoorU16D
namespace Go.Proofs.YtbcbmmgfdobdiaaDoor
open Go.RowKit

theorem rhigh_any (c : Int) (w : World) : Calls Tryd.prog 89 #[.int .i64 c] w fun e w' => e = .returned (.bool (high c)) ∧ w = w' := by
  by_cases h1 : 55296 ≤ c
  · by_cases h2 : c ≤ 56319
    · have H := Lib.hid (show high c = true by simp [high]; omega)
      go_enter Tryd.func89, Tryd.ntmps89
      go_wp2
      go_ret
      exact ⟨ret_bool H.out.symm, rfl⟩
    · have H := Lib.hid (show high c = false by simp [high]; omega)
      go_enter Tryd.func89, Tryd.ntmps89
      go_wp2
      go_ret
      exact ⟨ret_bool H.out.symm, rfl⟩
  · have H := Lib.hid (show high c = false by simp [high]; omega)
    go_enter Tryd.func89, Tryd.ntmps89
    go_wp2
    go_ret
    exact ⟨ret_bool H.out.symm, rfl⟩
theorem rlow_any (c : Int) (w : World) : Calls Tryd.prog 90 #[.int .i64 c] w fun e w' => e = .returned (.bool (low c)) ∧ w = w' := by
  by_cases h1 : 56320 ≤ c
  · by_cases h2 : c ≤ 57343
    · have H := Lib.hid (show low c = true by simp [low]; omega)
      go_enter Tryd.func90, Tryd.ntmps90
      go_wp2
      go_ret
      exact ⟨ret_bool H.out.symm, rfl⟩
    · have H := Lib.hid (show low c = false by simp [low]; omega)
      go_enter Tryd.func90, Tryd.ntmps90
      go_wp2
      go_ret
      exact ⟨ret_bool H.out.symm, rfl⟩
  · have H := Lib.hid (show low c = false by simp [low]; omega)
    go_enter Tryd.func90, Tryd.ntmps90
    go_wp2
    go_ret
    exact ⟨ret_bool H.out.symm, rfl⟩

/-- what Begin returns -/
def begB : List Int → Int × Int × Bool
  | [] => (0, 0, false)
  | [u] => if bmp u = true then (u, 1, true) else (0, 1, false)
  | u :: v :: _ => if high u = true ∧ low v = true then (jn u v, 2, true) else if bmp u = true then (u, 1, true) else (0, 1, false)

theorem bmp_cases (u : Int) : (bmp u = true ∧ 0 ≤ u ∧ u ≤ 65535 ∧ high u = false ∧ low u = false) ∨ (bmp u = false ∧ u < 0) ∨ (bmp u = false ∧ 65535 < u) ∨
    (bmp u = false ∧ 0 ≤ u ∧ u ≤ 65535 ∧ high u = true) ∨ (bmp u = false ∧ 0 ≤ u ∧ u ≤ 65535 ∧ high u = false ∧ low u = true) := by
  simp only [bmp, high, low, decide_eq_true_eq, decide_eq_false_iff_not]
  omega
theorem high_out {u : Int} (h : u < 0 ∨ 65535 < u) : high u = false := by simp [high]; omega

set_option maxRecDepth 100000 in
set_option maxHeartbeats 2000000 in
theorem begin_one (B n cap : Nat) (A : Option Addr) (u : Int) (x y : Int) (b : Bool) (w : World) (h : Reads w B 1 A n ([u].map iv)) (hR : begB [u] = (x, y, b)) :
    Calls Tryd.prog 71 #[.slice A n cap] w fun e w' => e = .returned (.tuple #[.int .i64 x, .int .i64 y, .bool b]) ∧ w = w' := by
  obtain rfl : n = 1 := by have := h.1; simpa using this.symm
  obtain ⟨ad, uu, rfl, hadB, hu, hcell⟩ := h.at_ (k := 0) (by omega)
  obtain rfl : uu = .int .i64 u := by simp [iv] at hu; exact hu.symm
  have hcell0 : w.cell? ad = some (.int .i64 u) := hcell
  clear hu hadB hcell
  rcases bmp_cases u with ⟨hb, h1, h2, h3, h4⟩ | ⟨hb, h1⟩ | ⟨hb, h1⟩ | ⟨hb, h1, h2, h3⟩ | ⟨hb, h1, h2, h3, h4⟩
  · obtain ⟨rfl, rfl, rfl⟩ : u = x ∧ 1 = y ∧ true = b := by simpa [begB, hb] using hR
    have H3 := Lib.hid h3
    have H4 := Lib.hid h4
    clear hR hb h3 h4 h
    go_enter Tryd.func71, Tryd.ntmps71
    go_wp2_with fail
    refine (rhigh_any u _).mono ?_
    rintro e w1 ⟨rfl, rfl⟩
    rw [H3.out]
    go_wp2_with fail
    refine (rlow_any u _).mono ?_
    rintro e w1 ⟨rfl, rfl⟩
    rw [H4.out]
    go_wp2
    exact bodyPost_ret (v := .tuple #[.int .i64 _, .int .i64 1, .bool _]) (by simp [results, Tryd.results71, go_sem] <;> rfl) rfl ⟨rfl, rfl⟩
  · obtain ⟨rfl, rfl, rfl⟩ : 0 = x ∧ 1 = y ∧ false = b := by simpa [begB, hb] using hR
    clear hR hb h
    go_enter Tryd.func71, Tryd.ntmps71
    go_wp2
    exact bodyPost_ret (v := .tuple #[.int .i64 _, .int .i64 1, .bool _]) (by simp [results, Tryd.results71, go_sem] <;> rfl) rfl ⟨rfl, rfl⟩
  · obtain ⟨rfl, rfl, rfl⟩ : 0 = x ∧ 1 = y ∧ false = b := by simpa [begB, hb] using hR
    clear hR hb h
    have h0 : ¬ u < 0 := by omega
    go_enter Tryd.func71, Tryd.ntmps71
    go_wp2
    exact bodyPost_ret (v := .tuple #[.int .i64 _, .int .i64 1, .bool _]) (by simp [results, Tryd.results71, go_sem] <;> rfl) rfl ⟨rfl, rfl⟩
  · obtain ⟨rfl, rfl, rfl⟩ : 0 = x ∧ 1 = y ∧ false = b := by simpa [begB, hb] using hR
    have H3 := Lib.hid h3
    clear hR hb h3 h
    go_enter Tryd.func71, Tryd.ntmps71
    go_wp2_with fail
    refine (rhigh_any u _).mono ?_
    rintro e w1 ⟨rfl, rfl⟩
    rw [H3.out]
    go_wp2
    exact bodyPost_ret (v := .tuple #[.int .i64 _, .int .i64 1, .bool _]) (by simp [results, Tryd.results71, go_sem] <;> rfl) rfl ⟨rfl, rfl⟩
  · obtain ⟨rfl, rfl, rfl⟩ : 0 = x ∧ 1 = y ∧ false = b := by simpa [begB, hb] using hR
    have H3 := Lib.hid h3
    have H4 := Lib.hid h4
    clear hR hb h3 h4 h
    go_enter Tryd.func71, Tryd.ntmps71
    go_wp2_with fail
    refine (rhigh_any u _).mono ?_
    rintro e w1 ⟨rfl, rfl⟩
    rw [H3.out]
    go_wp2_with fail
    refine (rlow_any u _).mono ?_
    rintro e w1 ⟨rfl, rfl⟩
    rw [H4.out]
    go_wp2
    exact bodyPost_ret (v := .tuple #[.int .i64 _, .int .i64 1, .bool _]) (by simp [results, Tryd.results71, go_sem] <;> rfl) rfl ⟨rfl, rfl⟩

set_option maxRecDepth 100000 in
set_option maxHeartbeats 4000000 in
theorem begin_two (B n cap : Nat) (A : Option Addr) (u v : Int) (t : List Int) (x y : Int) (b : Bool) (w : World) (h : Reads w B 1 A n ((u :: v :: t).map iv)) (hR : begB (u :: v :: t) = (x, y, b)) :
    Calls Tryd.prog 71 #[.slice A n cap] w fun e w' => e = .returned (.tuple #[.int .i64 x, .int .i64 y, .bool b]) ∧ w = w' := by
  have hn : 2 ≤ n := by have := h.1; simp at this; omega
  obtain ⟨ad, uu, rfl, hadB, hu, hcell⟩ := h.at_ (k := 0) (by omega)
  obtain rfl : uu = .int .i64 u := by simp [iv] at hu; exact hu.symm
  obtain ⟨ad2, uv, e2, hadB2, hu2, hcell2⟩ := h.at_ (k := 1) (by omega)
  obtain rfl : ad2 = ad := by injection e2 with e2; exact e2.symm
  obtain rfl : uv = .int .i64 v := by simp [iv] at hu2; exact hu2.symm
  have hcell0 : w.cell? ad2 = some (.int .i64 u) := hcell
  rw [show ad2.add 1 = ⟨ad2.block, ad2.off + 1, none⟩ from rfl] at hcell2
  have hn1 : (1 : Int) < (n : Int) := by omega
  have hn0 : (n : Int) ≠ 0 := by omega
  have hn0' : ((n : Int) == 0) = false := by simp; omega
  clear hu hadB hcell hu2 hadB2 e2 h
  rcases bmp_cases u with ⟨hb, h1, h2, h3, h4⟩ | ⟨hb, h1⟩ | ⟨hb, h1⟩ | ⟨hb, h1, h2, h3⟩ | ⟨hb, h1, h2, h3, h4⟩
  · obtain ⟨rfl, rfl, rfl⟩ : u = x ∧ 1 = y ∧ true = b := by simpa [begB, hb, h3] using hR
    have H3 := Lib.hid h3
    have H4 := Lib.hid h4
    clear hR hb h3 h4
    go_enter Tryd.func71, Tryd.ntmps71
    go_wp2_with fail
    refine (rhigh_any u _).mono ?_
    rintro e w1 ⟨rfl, rfl⟩
    rw [H3.out]
    go_wp2_with fail
    refine (rhigh_any u _).mono ?_
    rintro e w1 ⟨rfl, rfl⟩
    rw [H3.out]
    go_wp2_with fail
    refine (rlow_any u _).mono ?_
    rintro e w1 ⟨rfl, rfl⟩
    rw [H4.out]
    go_wp2
    exact bodyPost_ret (v := .tuple #[.int .i64 _, .int .i64 1, .bool _]) (by simp [results, Tryd.results71, go_sem] <;> rfl) rfl ⟨rfl, rfl⟩
  · have H3 := Lib.hid (high_out (.inl h1))
    obtain ⟨rfl, rfl, rfl⟩ : 0 = x ∧ 1 = y ∧ false = b := by simpa [begB, hb, H3.out] using hR
    clear hR hb
    go_enter Tryd.func71, Tryd.ntmps71
    go_wp2_with fail
    refine (rhigh_any u _).mono ?_
    rintro e w1 ⟨rfl, rfl⟩
    rw [H3.out]
    go_wp2
    exact bodyPost_ret (v := .tuple #[.int .i64 _, .int .i64 1, .bool _]) (by simp [results, Tryd.results71, go_sem] <;> rfl) rfl ⟨rfl, rfl⟩
  · have H3 := Lib.hid (high_out (.inr h1))
    obtain ⟨rfl, rfl, rfl⟩ : 0 = x ∧ 1 = y ∧ false = b := by simpa [begB, hb, H3.out] using hR
    have h0 : ¬ u < 0 := by omega
    clear hR hb
    go_enter Tryd.func71, Tryd.ntmps71
    go_wp2_with fail
    refine (rhigh_any u _).mono ?_
    rintro e w1 ⟨rfl, rfl⟩
    rw [H3.out]
    go_wp2
    exact bodyPost_ret (v := .tuple #[.int .i64 _, .int .i64 1, .bool _]) (by simp [results, Tryd.results71, go_sem] <;> rfl) rfl ⟨rfl, rfl⟩
  · cases hv : low v with
    | true =>
      obtain ⟨rfl, rfl, rfl⟩ : jn u v = x ∧ 2 = y ∧ true = b := by simpa [begB, hb, h3, hv] using hR
      have H3 := Lib.hid h3
      have HV := Lib.hid hv
      have hu3 : 55296 ≤ u ∧ u ≤ 56319 := by simpa [high] using h3
      have hv3 : 56320 ≤ v ∧ v ≤ 57343 := by simpa [low] using hv
      obtain ⟨hu3, hu4⟩ := hu3
      obtain ⟨hv3, hv4⟩ := hv3
      clear hR hb h3 hv
      go_enter Tryd.func71, Tryd.ntmps71
      go_wp2_with fail
      refine (rhigh_any u _).mono ?_
      rintro e w1 ⟨rfl, rfl⟩
      rw [H3.out]
      go_wp2_with fail
      refine (rlow_any v _).mono ?_
      rintro e w1 ⟨rfl, rfl⟩
      rw [HV.out]
      go_wp2
      exact bodyPost_ret (v := .tuple #[.int .i64 (jn u v), .int .i64 2, .bool true]) (by simp [results, Tryd.results71, go_sem, jn] <;> first | rfl | omega) rfl ⟨rfl, rfl⟩
    | false =>
      obtain ⟨rfl, rfl, rfl⟩ : 0 = x ∧ 1 = y ∧ false = b := by simpa [begB, hb, h3, hv] using hR
      have H3 := Lib.hid h3
      have HV := Lib.hid hv
      clear hR hb h3 hv
      go_enter Tryd.func71, Tryd.ntmps71
      go_wp2_with fail
      refine (rhigh_any u _).mono ?_
      rintro e w1 ⟨rfl, rfl⟩
      rw [H3.out]
      go_wp2_with fail
      refine (rlow_any v _).mono ?_
      rintro e w1 ⟨rfl, rfl⟩
      rw [HV.out]
      go_wp2_with fail
      refine (rhigh_any u _).mono ?_
      rintro e w1 ⟨rfl, rfl⟩
      rw [H3.out]
      go_wp2
      exact bodyPost_ret (v := .tuple #[.int .i64 _, .int .i64 1, .bool _]) (by simp [results, Tryd.results71, go_sem] <;> rfl) rfl ⟨rfl, rfl⟩
  · obtain ⟨rfl, rfl, rfl⟩ : 0 = x ∧ 1 = y ∧ false = b := by simpa [begB, hb, h3] using hR
    have H3 := Lib.hid h3
    have H4 := Lib.hid h4
    clear hR hb h3 h4
    go_enter Tryd.func71, Tryd.ntmps71
    go_wp2_with fail
    refine (rhigh_any u _).mono ?_
    rintro e w1 ⟨rfl, rfl⟩
    rw [H3.out]
    go_wp2_with fail
    refine (rhigh_any u _).mono ?_
    rintro e w1 ⟨rfl, rfl⟩
    rw [H3.out]
    go_wp2_with fail
    refine (rlow_any u _).mono ?_
    rintro e w1 ⟨rfl, rfl⟩
    rw [H4.out]
    go_wp2
    exact bodyPost_ret (v := .tuple #[.int .i64 _, .int .i64 1, .bool _]) (by simp [results, Tryd.results71, go_sem] <;> rfl) rfl ⟨rfl, rfl⟩

theorem begin_any (B n cap : Nat) (A : Option Addr) (l : List Int) (w : World) (h : Reads w B 1 A n (l.map iv)) (hl : l ≠ []) :
    Calls Tryd.prog 71 #[.slice A n cap] w fun e w' => e = .returned (.tuple #[.int .i64 (begB l).1, .int .i64 (begB l).2.1, .bool (begB l).2.2]) ∧ w = w' := by
  match l, h, hl with
  | [u], h, _ => exact begin_one B n cap A u _ _ _ w h rfl
  | u :: v :: t, h, _ => exact begin_two B n cap A u v t _ _ _ w h rfl

end Go.Proofs.YtbcbmmgfdobdiaaDoor
