/- The reference's unit and wide (layer 7). -/
import Derived.Test.YtbcbmmgfdobdiaaDoorRK2
namespace Go.Proofs.YtbcbmmgfdobdiaaDoor
open Go.RowKit

theorem unt_two (big : Bool) (a b : UInt8) : unt big [a, b] = [(unit2 big a b : Int)] := by
  unfold unit2; cases big <;> simp [unt]

set_option maxRecDepth 100000 in
set_option maxHeartbeats 2000000 in
theorem runit_any (a b : UInt8) (t : List UInt8) (big : Bool) (w : World) :
    Calls Tryd.prog 70 #[.string ⟨(a :: b :: t).toArray⟩, .bool big] w fun e w' => e = .returned (.int .i64 (unit2 big a b : Int)) ∧ Below w.heap.size w w' := by
  have h2 : (2 : Int) ≤ (((a :: b :: t).length : Nat) : Int) := by simp; omega
  have h2n : 2 ≤ (a :: b :: t).length := by simp
  have ex : (⟨(a :: b :: t).toArray⟩ : ByteArray).extract 0 2 = ⟨[a, b].toArray⟩ := by apply ByteArray.ext; simp
  obtain ⟨s, hs⟩ : ∃ s, s = a :: b :: t := ⟨_, rfl⟩
  rw [← hs] at h2 h2n ex ⊢
  clear hs
  go_enter Tryd.func70, Tryd.ntmps70
  go_wp2_with fail
  refine (rreadH [a, b] [(unit2 big a b : Int)] big w (by simp) (unt_two big a b)).mono ?_
  rintro e w1 ⟨A, c, rfl, hc, ho, hb⟩
  obtain ⟨A', c', hv, _, hr⟩ := val_of_own ho
  injection hv with hv1 hv2 hv3
  subst hv1 hv3
  obtain ⟨ad, u, rfl, _, hu, hcell⟩ := hr.at_ (k := 0) (by simp)
  simp [iv] at hu
  subst hu
  clear hr ho
  rw [addr_add0] at hcell
  have hcell0 := hcell
  go_wp2
  go_ret
  exact ⟨rfl, hb⟩

theorem beg_one (u : Nat) (hu : u < 65536) : begB [(u : Int)] = (((one16 u).1 : Int), 1, (one16 u).2.2) := by
  by_cases h : sur u = true
  · rw [one16_bad h]
    have h' := sur_true.1 h
    simp only [begB]
    rw [if_neg]; · rfl
    simp only [bmp, decide_eq_true_eq]; omega
  · have h0 : sur u = false := by simpa using h
    rw [one16_of h0]
    have h' := sur_false.1 h0
    simp only [begB]
    rw [if_pos]
    simp only [bmp, decide_eq_true_eq]; omega
theorem beg_two (u v : Nat) (hu : u < 65536) (hv : v < 65536) : ∃ n : Nat, begB [(u : Int), (v : Int)] = (((two16 u v).1 : Int), (n : Int), (two16 u v).2.2) ∧ (two16 u v).2.1 = 2 * n ∧ n ≤ 2 := by
  by_cases h : sur u = true
  · have h' := sur_true.1 h
    by_cases h5 : u ≤ 56319 ∧ 56320 ≤ v ∧ v ≤ 57343
    · refine ⟨2, ?_, ?_, by omega⟩
      · simp only [two16, if_pos h, if_pos h5, begB]
        rw [if_pos (by simp only [high, low, decide_eq_true_eq]; omega)]
        simp only [jn, Prod.mk.injEq, and_true]
        omega
      · simp only [two16, if_pos h, if_pos h5]
    · refine ⟨1, ?_, ?_, by omega⟩
      · simp only [two16, if_pos h, if_neg h5, begB]
        rw [if_neg (by simp only [high, low, decide_eq_true_eq]; omega), if_neg (by simp only [bmp, decide_eq_true_eq]; omega)]
        rfl
      · simp only [two16, if_pos h, if_neg h5]
  · have h0 : sur u = false := by simpa using h
    have h' := sur_false.1 h0
    refine ⟨1, ?_, ?_, by omega⟩
    · simp only [two16, if_neg h, begB]
      rw [if_neg (by simp only [high, low, decide_eq_true_eq]; omega), if_pos (by simp only [bmp, decide_eq_true_eq]; omega)]
      rfl
    · simp only [two16, if_neg h]

set_option maxRecDepth 100000 in
set_option maxHeartbeats 2000000 in
theorem wide_short (s : List UInt8) (big : Bool) (w : World) (hs : s.length < 2) :
    Calls Tryd.prog 50 #[.string ⟨s.toArray⟩, .bool big] w fun e w' => e = .returned (trip64 (step16 big s)) ∧ Below w.heap.size w w' := by
  have he : step16 big s = (0, s.length, false) := by
    match s, hs with
    | [], _ => rfl
    | [a], _ => rfl
  have h2 : (s.length : Int) < 2 := by omega
  rw [he]
  clear he
  go_enter Tryd.func50, Tryd.ntmps50
  go_wp2
  exact bodyPost_ret (v := .tuple #[.int .i64 0, .int .i64 (s.length : Int), .bool false]) (by simp [results, Tryd.results50, go_sem]) rfl ⟨rfl, Below.refl _ _⟩

set_option maxRecDepth 100000 in
set_option maxHeartbeats 2000000 in
theorem wide_one (a b : UInt8) (t : List UInt8) (big : Bool) (w : World) (ht : t.length < 2) :
    Calls Tryd.prog 50 #[.string ⟨(a :: b :: t).toArray⟩, .bool big] w fun e w' => e = .returned (trip64 (step16 big (a :: b :: t))) ∧ Below w.heap.size w w' := by
  have he : step16 big (a :: b :: t) = one16 (unit2 big a b) := by
    match t, ht with
    | [], _ => rfl
    | [c], _ => rfl
  have hlen : ((a :: b :: t).length : Int) = (t.length : Int) + 2 := by simp; omega
  have h2 : ¬ ((a :: b :: t).length : Int) < 2 := by omega
  have h4 : ¬ (4 : Int) ≤ ((a :: b :: t).length : Int) := by omega
  have Hu := Lib.hid (fun w => runit_any a b t big w)
  have Hb := Lib.hid (beg_one (unit2 big a b) (unit2_lt big a b))
  have Hn := Lib.hid (one16_n (unit2 big a b))
  rw [he]
  clear he
  obtain ⟨s, hs⟩ : ∃ s, s = a :: b :: t := ⟨_, rfl⟩
  rw [← hs] at h2 h4 Hu hlen ⊢
  clear hs hlen
  obtain ⟨u, hu⟩ : ∃ u, u = unit2 big a b := ⟨_, rfl⟩
  rw [← hu] at Hu Hb Hn ⊢
  clear hu
  obtain ⟨⟨x, y, f⟩, hr⟩ : ∃ r, one16 u = r := ⟨_, rfl⟩
  rw [hr] at Hb Hn ⊢
  obtain rfl : y = 2 := Hn.out
  clear hr
  go_enter Tryd.func50, Tryd.ntmps50
  go_wp2_with fail
  refine (Hu.out w).mono ?_
  rintro e w1 ⟨rfl, hb1⟩
  have R := Lib.hid (reads_new w1 #[.int .i64 (u : Int)] 3 ([(u : Int)].map iv) rfl)
  have bn := Lib.hid (below_new w1 (.cells #[.int .i64 (u : Int)] 3))
  go_wp2_with fail
  refine (begin_one _ 1 1 _ (u : Int) (x : Int) 1 f _ R.out Hb.out).mono ?_
  rintro e w2 ⟨rfl, rfl⟩
  go_wp2
  exact bodyPost_ret (v := .tuple #[.int .i64 (x : Int), .int .i64 2, .bool f]) (by simp [results, Tryd.results50, go_sem]) rfl ⟨rfl, hb1.trans (bn.out.mono hb1.size)⟩

set_option maxRecDepth 100000 in
set_option maxHeartbeats 2000000 in
theorem wide_two (a b c d : UInt8) (t : List UInt8) (big : Bool) (w : World) (ht : t.length ≤ 1000000) :
    Calls Tryd.prog 50 #[.string ⟨(a :: b :: c :: d :: t).toArray⟩, .bool big] w fun e w' => e = .returned (trip64 (step16 big (a :: b :: c :: d :: t))) ∧ Below w.heap.size w w' := by
  have he : step16 big (a :: b :: c :: d :: t) = two16 (unit2 big a b) (unit2 big c d) := rfl
  have hlen : ((a :: b :: c :: d :: t).length : Int) = (t.length : Int) + 4 := by simp; omega
  have hlen' : (a :: b :: c :: d :: t).length = t.length + 4 := by simp
  have h2 : ¬ ((a :: b :: c :: d :: t).length : Int) < 2 := by omega
  have h4 : (4 : Int) ≤ ((a :: b :: c :: d :: t).length : Int) := by omega
  have h2' : (2 : Int) ≤ ((a :: b :: c :: d :: t).length : Int) := by omega
  have h2n : 2 ≤ (a :: b :: c :: d :: t).length := by omega
  have ex : (⟨(a :: b :: c :: d :: t).toArray⟩ : ByteArray).extract 2 (a :: b :: c :: d :: t).length = ⟨(c :: d :: t).toArray⟩ := ext_drop (a :: b :: c :: d :: t) 2
  have ex2 : (⟨(a :: b :: c :: d :: t).toArray⟩ : ByteArray).extract (Int.toNat 2) (a :: b :: c :: d :: t).length = ⟨(c :: d :: t).toArray⟩ := ext_drop (a :: b :: c :: d :: t) 2
  have Hu := Lib.hid (fun w => runit_any a b (c :: d :: t) big w)
  have Hv := Lib.hid (fun w => runit_any c d t big w)
  obtain ⟨n, hb0, hn, hn2⟩ := beg_two (unit2 big a b) (unit2 big c d) (unit2_lt big a b) (unit2_lt big c d)
  have Hb := Lib.hid hb0
  have Hn := Lib.hid hn
  rw [he]
  clear he hb0 hn
  obtain ⟨s, hs⟩ : ∃ s, s = a :: b :: c :: d :: t := ⟨_, rfl⟩
  obtain ⟨s2, hs2⟩ : ∃ s, s = c :: d :: t := ⟨_, rfl⟩
  rw [← hs] at h2 h2' h2n h4 Hu hlen hlen' ex ex2 ⊢
  rw [← hs2] at Hv ex ex2
  clear hs hs2 hlen hlen'
  obtain ⟨u, hu⟩ : ∃ u, u = unit2 big a b := ⟨_, rfl⟩
  obtain ⟨v, hv⟩ : ∃ u, u = unit2 big c d := ⟨_, rfl⟩
  rw [← hu] at Hu Hb Hn ⊢
  rw [← hv] at Hv Hb Hn ⊢
  clear hu hv
  obtain ⟨⟨x, y, f⟩, hr⟩ : ∃ r, two16 u v = r := ⟨_, rfl⟩
  rw [hr] at Hb Hn ⊢
  obtain rfl : y = 2 * n := Hn.out
  clear hr
  obtain ⟨i0, hi, hz0, hz1, hz2⟩ := info_parts Tryd.info3
  go_enter Tryd.func50, Tryd.ntmps50
  go_wp2_with fail
  refine (Hu.out w).mono ?_
  rintro e w1 ⟨rfl, hb1⟩
  go_wp2_with fail
  obtain ⟨W, hW⟩ : ∃ W, W = w1.alloc (.cells #[.int .i64 (u : Int)] 3) := ⟨_, rfl⟩
  have ho : W.ownsRow w1.heap.size 3 1 (.slice (some ⟨w1.heap.size, 0, none⟩) 1 1) 1 [.int .i64 (u : Int)] := by
    have := World.ownsRow_lit (base := w1.heap.size) (e := 3) (size := 1) w1 #[.int .i64 (u : Int)] 1 (by simp) (by unfold maxLen; omega) rfl
    rw [hW]; simpa using this
  have bn := Lib.hid (below_new w1 (.cells #[.int .i64 (u : Int)] 3))
  rw [← hW] at bn ⊢
  clear hW
  have b2 := Lib.hid (hb1.trans (bn.out.mono hb1.size))
  refine (Hv.out W).mono ?_
  rintro e w3 ⟨rfl, hb3⟩
  have ho3 := own_below ho hb3
  have hsz : w1.heap.size ≤ w3.heap.size := by have := bn.out.size; have := hb3.size; omega
  have b3 := Lib.hid (b2.out.trans (hb3.mono b2.out.size))
  have hw1 := Lib.hid hb1.size
  clear hb3 ho ex ex2
  go_wp2_with (at_builtin; go_must (refine wpList_app1 rfl (.tmp 23) (.tmp 28) 22 rfl Tryd.underlying22 hi hz0 hz1 hz2 rfl (by omega) w3 _ _ _ rfl ho3 _ rfl rfl (by omega) hsz ?_); intro v4 w4 ho4 hB4 _)
  obtain ⟨A4, c4, rfl, _, hr4⟩ := val_of_own ho4
  have HR4 := Lib.hid (show Reads w4 w4.heap.size 1 A4 2 ([(u : Int), (v : Int)].map iv) from hr4)
  clear hr4 ho4 ho3
  refine (begin_two _ 2 c4 A4 (u : Int) (v : Int) [] (x : Int) (n : Int) f _ HR4.out Hb.out).mono ?_
  rintro e w5 ⟨rfl, rfl⟩
  have hwr : IntKind.i64.wrap (2 * (n : Int)) = ((2 * n : Nat) : Int) := by rw [IntWalk.i64_in _ (by omega)]; simp
  go_wp2
  exact bodyPost_ret (v := .tuple #[.int .i64 (x : Int), .int .i64 ((2 * n : Nat) : Int), .bool f]) (by simp [results, Tryd.results50, go_sem]) rfl ⟨rfl, b3.out.trans (hB4.mono hw1.out)⟩
theorem wide_any (s : List UInt8) (big : Bool) (w : World) (hs : s.length ≤ 1000000) :
    Calls Tryd.prog 50 #[.string ⟨s.toArray⟩, .bool big] w fun e w' => e = .returned (trip64 (step16 big s)) ∧ Below w.heap.size w w' := by
  match s, hs with
  | [], _ => exact wide_short [] big w (by simp)
  | [a], _ => exact wide_short [a] big w (by simp)
  | [a, b], _ => exact wide_one a b [] big w (by simp)
  | [a, b, c], _ => exact wide_one a b [c] big w (by simp)
  | a :: b :: c :: d :: t, h => exact wide_two a b c d t big w (by simp at h; omega)
end Go.Proofs.YtbcbmmgfdobdiaaDoor
