/- RK3 RK4 RK5 RK6, merged. -/
import Derived.Test.YtbcbmmgfdobdiaaDoorRK2
import Derived.Test.YtbcbmmgfdobdiaaDoorKF
/- The reference's unit and wide (layer 7). -/
namespace Go.Proofs.YtbcbmmgfdobdiaaDoor
open Go.RowKit

theorem unt_two (big : Bool) (a b : UInt8) : unt big [a, b] = [(unit2 big a b : Int)] := by
  unfold unit2; cases big <;> simp [unt]

set_option maxRecDepth 100000 in
set_option maxHeartbeats 2000000 in
theorem runit_any (a b : UInt8) (t : List UInt8) (big : Bool) (w : World) :
    Calls Tryd.prog 70 #[.string ⟨(a :: b :: t).toArray⟩, .bool big] w fun e w' => e = .returned (.int .i64 (unit2 big a b : Int)) ∧ Below w.heap.size w w' := by
  have h2 : (2 : Int) ≤ (((a :: b :: t).length : Nat) : Int) := by simp; omega
  have h2n : 2 ≤ (a :: b :: t).length := by simp
  have ex : (⟨(a :: b :: t).toArray⟩ : ByteArray).extract 0 2 = ⟨[a, b].toArray⟩ := by apply ByteArray.ext; simp
  obtain ⟨s, hs⟩ : ∃ s, s = a :: b :: t := ⟨_, rfl⟩
  rw [← hs] at h2 h2n ex ⊢
  clear hs
  go_enter Tryd.func70, Tryd.ntmps70
  go_wp2_with fail
  refine (rreadH [a, b] [(unit2 big a b : Int)] big w (by simp) (unt_two big a b)).mono ?_
  rintro e w1 ⟨A, c, rfl, hc, ho, hb⟩
  obtain ⟨A', c', hv, _, hr⟩ := val_of_own ho
  injection hv with hv1 hv2 hv3
  subst hv1 hv3
  obtain ⟨ad, u, rfl, _, hu, hcell⟩ := hr.at_ (k := 0) (by simp)
  simp [iv] at hu
  subst hu
  clear hr ho
  rw [addr_add0] at hcell
  have hcell0 := hcell
  go_wp2
  go_ret
  exact ⟨rfl, hb⟩

theorem beg_one (u : Nat) (hu : u < 65536) : begB [(u : Int)] = (((one16 u).1 : Int), 1, (one16 u).2.2) := by
  by_cases h : sur u = true
  · rw [one16_bad h]
    have h' := sur_true.1 h
    simp only [begB]
    rw [if_neg]; · rfl
    simp only [bmp, decide_eq_true_eq]; omega
  · have h0 : sur u = false := by simpa using h
    rw [one16_of h0]
    have h' := sur_false.1 h0
    simp only [begB]
    rw [if_pos]
    simp only [bmp, decide_eq_true_eq]; omega
theorem beg_two (u v : Nat) (hu : u < 65536) (hv : v < 65536) : ∃ n : Nat, begB [(u : Int), (v : Int)] = (((two16 u v).1 : Int), (n : Int), (two16 u v).2.2) ∧ (two16 u v).2.1 = 2 * n ∧ n ≤ 2 := by
  by_cases h : sur u = true
  · have h' := sur_true.1 h
    by_cases h5 : u ≤ 56319 ∧ 56320 ≤ v ∧ v ≤ 57343
    · refine ⟨2, ?_, ?_, by omega⟩
      · simp only [two16, if_pos h, if_pos h5, begB]
        rw [if_pos (by simp only [high, low, decide_eq_true_eq]; omega)]
        simp only [jn, Prod.mk.injEq, and_true]
        omega
      · simp only [two16, if_pos h, if_pos h5]
    · refine ⟨1, ?_, ?_, by omega⟩
      · simp only [two16, if_pos h, if_neg h5, begB]
        rw [if_neg (by simp only [high, low, decide_eq_true_eq]; omega), if_neg (by simp only [bmp, decide_eq_true_eq]; omega)]
        rfl
      · simp only [two16, if_pos h, if_neg h5]
  · have h0 : sur u = false := by simpa using h
    have h' := sur_false.1 h0
    refine ⟨1, ?_, ?_, by omega⟩
    · simp only [two16, if_neg h, begB]
      rw [if_neg (by simp only [high, low, decide_eq_true_eq]; omega), if_pos (by simp only [bmp, decide_eq_true_eq]; omega)]
      rfl
    · simp only [two16, if_neg h]

set_option maxRecDepth 100000 in
set_option maxHeartbeats 2000000 in
theorem wide_short (s : List UInt8) (big : Bool) (w : World) (hs : s.length < 2) :
    Calls Tryd.prog 50 #[.string ⟨s.toArray⟩, .bool big] w fun e w' => e = .returned (trip64 (step16 big s)) ∧ Below w.heap.size w w' := by
  have he : step16 big s = (0, s.length, false) := by
    match s, hs with
    | [], _ => rfl
    | [a], _ => rfl
  have h2 : (s.length : Int) < 2 := by omega
  rw [he]
  clear he
  go_enter Tryd.func50, Tryd.ntmps50
  go_wp2
  exact bodyPost_ret (v := .tuple #[.int .i64 0, .int .i64 (s.length : Int), .bool false]) (by simp [results, Tryd.results50, go_sem]) rfl ⟨rfl, Below.refl _ _⟩

set_option maxRecDepth 100000 in
set_option maxHeartbeats 2000000 in
theorem wide_one (a b : UInt8) (t : List UInt8) (big : Bool) (w : World) (ht : t.length < 2) :
    Calls Tryd.prog 50 #[.string ⟨(a :: b :: t).toArray⟩, .bool big] w fun e w' => e = .returned (trip64 (step16 big (a :: b :: t))) ∧ Below w.heap.size w w' := by
  have he : step16 big (a :: b :: t) = one16 (unit2 big a b) := by
    match t, ht with
    | [], _ => rfl
    | [c], _ => rfl
  have hlen : ((a :: b :: t).length : Int) = (t.length : Int) + 2 := by simp; omega
  have h2 : ¬ ((a :: b :: t).length : Int) < 2 := by omega
  have h4 : ¬ (4 : Int) ≤ ((a :: b :: t).length : Int) := by omega
  have Hu := Lib.hid (fun w => runit_any a b t big w)
  have Hb := Lib.hid (beg_one (unit2 big a b) (unit2_lt big a b))
  have Hn := Lib.hid (one16_n (unit2 big a b))
  rw [he]
  clear he
  obtain ⟨s, hs⟩ : ∃ s, s = a :: b :: t := ⟨_, rfl⟩
  rw [← hs] at h2 h4 Hu hlen ⊢
  clear hs hlen
  obtain ⟨u, hu⟩ : ∃ u, u = unit2 big a b := ⟨_, rfl⟩
  rw [← hu] at Hu Hb Hn ⊢
  clear hu
  obtain ⟨⟨x, y, f⟩, hr⟩ : ∃ r, one16 u = r := ⟨_, rfl⟩
  rw [hr] at Hb Hn ⊢
  obtain rfl : y = 2 := Hn.out
  clear hr
  go_enter Tryd.func50, Tryd.ntmps50
  go_wp2_with fail
  refine (Hu.out w).mono ?_
  rintro e w1 ⟨rfl, hb1⟩
  have R := Lib.hid (reads_new w1 #[.int .i64 (u : Int)] 3 ([(u : Int)].map iv) rfl)
  have bn := Lib.hid (below_new w1 (.cells #[.int .i64 (u : Int)] 3))
  go_wp2_with fail
  refine (begin_one _ 1 1 _ (u : Int) (x : Int) 1 f _ R.out Hb.out).mono ?_
  rintro e w2 ⟨rfl, rfl⟩
  go_wp2
  exact bodyPost_ret (v := .tuple #[.int .i64 (x : Int), .int .i64 2, .bool f]) (by simp [results, Tryd.results50, go_sem]) rfl ⟨rfl, hb1.trans (bn.out.mono hb1.size)⟩

set_option maxRecDepth 100000 in
set_option maxHeartbeats 2000000 in
theorem wide_two (a b c d : UInt8) (t : List UInt8) (big : Bool) (w : World) (ht : t.length ≤ 1000000) :
    Calls Tryd.prog 50 #[.string ⟨(a :: b :: c :: d :: t).toArray⟩, .bool big] w fun e w' => e = .returned (trip64 (step16 big (a :: b :: c :: d :: t))) ∧ Below w.heap.size w w' := by
  have he : step16 big (a :: b :: c :: d :: t) = two16 (unit2 big a b) (unit2 big c d) := rfl
  have hlen : ((a :: b :: c :: d :: t).length : Int) = (t.length : Int) + 4 := by simp; omega
  have hlen' : (a :: b :: c :: d :: t).length = t.length + 4 := by simp
  have h2 : ¬ ((a :: b :: c :: d :: t).length : Int) < 2 := by omega
  have h4 : (4 : Int) ≤ ((a :: b :: c :: d :: t).length : Int) := by omega
  have h2' : (2 : Int) ≤ ((a :: b :: c :: d :: t).length : Int) := by omega
  have h2n : 2 ≤ (a :: b :: c :: d :: t).length := by omega
  have ex : (⟨(a :: b :: c :: d :: t).toArray⟩ : ByteArray).extract 2 (a :: b :: c :: d :: t).length = ⟨(c :: d :: t).toArray⟩ := ext_drop (a :: b :: c :: d :: t) 2
  have ex2 : (⟨(a :: b :: c :: d :: t).toArray⟩ : ByteArray).extract (Int.toNat 2) (a :: b :: c :: d :: t).length = ⟨(c :: d :: t).toArray⟩ := ext_drop (a :: b :: c :: d :: t) 2
  have Hu := Lib.hid (fun w => runit_any a b (c :: d :: t) big w)
  have Hv := Lib.hid (fun w => runit_any c d t big w)
  obtain ⟨n, hb0, hn, hn2⟩ := beg_two (unit2 big a b) (unit2 big c d) (unit2_lt big a b) (unit2_lt big c d)
  have Hb := Lib.hid hb0
  have Hn := Lib.hid hn
  rw [he]
  clear he hb0 hn
  obtain ⟨s, hs⟩ : ∃ s, s = a :: b :: c :: d :: t := ⟨_, rfl⟩
  obtain ⟨s2, hs2⟩ : ∃ s, s = c :: d :: t := ⟨_, rfl⟩
  rw [← hs] at h2 h2' h2n h4 Hu hlen hlen' ex ex2 ⊢
  rw [← hs2] at Hv ex ex2
  clear hs hs2 hlen hlen'
  obtain ⟨u, hu⟩ : ∃ u, u = unit2 big a b := ⟨_, rfl⟩
  obtain ⟨v, hv⟩ : ∃ u, u = unit2 big c d := ⟨_, rfl⟩
  rw [← hu] at Hu Hb Hn ⊢
  rw [← hv] at Hv Hb Hn ⊢
  clear hu hv
  obtain ⟨⟨x, y, f⟩, hr⟩ : ∃ r, two16 u v = r := ⟨_, rfl⟩
  rw [hr] at Hb Hn ⊢
  obtain rfl : y = 2 * n := Hn.out
  clear hr
  obtain ⟨i0, hi, hz0, hz1, hz2⟩ := info_parts Tryd.info3
  go_enter Tryd.func50, Tryd.ntmps50
  go_wp2_with fail
  refine (Hu.out w).mono ?_
  rintro e w1 ⟨rfl, hb1⟩
  go_wp2_with fail
  obtain ⟨W, hW⟩ : ∃ W, W = w1.alloc (.cells #[.int .i64 (u : Int)] 3) := ⟨_, rfl⟩
  have ho : W.ownsRow w1.heap.size 3 1 (.slice (some ⟨w1.heap.size, 0, none⟩) 1 1) 1 [.int .i64 (u : Int)] := by
    have := World.ownsRow_lit (base := w1.heap.size) (e := 3) (size := 1) w1 #[.int .i64 (u : Int)] 1 (by simp) (by unfold maxLen; omega) rfl
    rw [hW]; simpa using this
  have bn := Lib.hid (below_new w1 (.cells #[.int .i64 (u : Int)] 3))
  rw [← hW] at bn ⊢
  clear hW
  have b2 := Lib.hid (hb1.trans (bn.out.mono hb1.size))
  refine (Hv.out W).mono ?_
  rintro e w3 ⟨rfl, hb3⟩
  have ho3 := own_below ho hb3
  have hsz : w1.heap.size ≤ w3.heap.size := by have := bn.out.size; have := hb3.size; omega
  have b3 := Lib.hid (b2.out.trans (hb3.mono b2.out.size))
  have hw1 := Lib.hid hb1.size
  clear hb3 ho ex ex2
  go_wp2_with (at_builtin; go_must (refine wpList_app1 rfl (.tmp 23) (.tmp 28) 22 rfl Tryd.underlying22 hi hz0 hz1 hz2 rfl (by omega) w3 _ _ _ rfl ho3 _ rfl rfl (by omega) hsz ?_); intro v4 w4 ho4 hB4 _)
  obtain ⟨A4, c4, rfl, _, hr4⟩ := val_of_own ho4
  have HR4 := Lib.hid (show Reads w4 w4.heap.size 1 A4 2 ([(u : Int), (v : Int)].map iv) from hr4)
  clear hr4 ho4 ho3
  refine (begin_two _ 2 c4 A4 (u : Int) (v : Int) [] (x : Int) (n : Int) f _ HR4.out Hb.out).mono ?_
  rintro e w5 ⟨rfl, rfl⟩
  have hwr : IntKind.i64.wrap (2 * (n : Int)) = ((2 * n : Nat) : Int) := by rw [IntWalk.i64_in _ (by omega)]; simp
  go_wp2
  exact bodyPost_ret (v := .tuple #[.int .i64 (x : Int), .int .i64 ((2 * n : Nat) : Int), .bool f]) (by simp [results, Tryd.results50, go_sem]) rfl ⟨rfl, b3.out.trans (hB4.mono hw1.out)⟩
theorem wide_any (s : List UInt8) (big : Bool) (w : World) (hs : s.length ≤ 1000000) :
    Calls Tryd.prog 50 #[.string ⟨s.toArray⟩, .bool big] w fun e w' => e = .returned (trip64 (step16 big s)) ∧ Below w.heap.size w w' := by
  match s, hs with
  | [], _ => exact wide_short [] big w (by simp)
  | [a], _ => exact wide_short [a] big w (by simp)
  | [a, b], _ => exact wide_one a b [] big w (by simp)
  | [a, b, c], _ => exact wide_one a b [c] big w (by simp)
  | a :: b :: c :: d :: t, h => exact wide_two a b c d t big w (by simp at h; omega)
end Go.Proofs.YtbcbmmgfdobdiaaDoor
/- The reference's Step (layer 7). -/
namespace Go.Proofs.YtbcbmmgfdobdiaaDoor
open Go.RowKit

theorem stepK_nil (K : Cd) : stepK K [] = (0, 0, false) := by
  cases K <;> rfl

set_option maxRecDepth 100000 in
set_option maxHeartbeats 2000000 in
theorem rstep_none (kind : Int) (A : Option Addr) (n c : Nat) (codes : List Int) (e : Int) (s : List UInt8) (w : World) (h : Reads w w.heap.size 1 A n (codes.map iv)) (hC : CkE kind codes e) (hz : e ≠ 0 ∨ s = []) :
    Calls Tryd.prog 26 #[.agg #[.int .i64 kind, .slice A n c], .string ⟨s.toArray⟩] w fun x w' => x = .returned (trip64 (0, 0, false)) ∧ Below w.heap.size w w' := by
  have HB := Lib.hid (Blk.new w 26 #[.int .i64 kind, .slice A n c])
  have hL := below_new w (.cells #[.int .i64 kind, .slice A n c] 26)
  have HL := Lib.hid hL
  have HR := Lib.hid (h.stay hL)
  have HC := Lib.hid hC
  have g0 := HB.out.cell 0
  have g1 := HB.out.cell 1
  clear hL h hC
  go_enter Tryd.func26, Tryd.ntmps26
  go_wp2_with fail
  refine (rcheck_any kind A n c codes e _ HR.out HC.out).mono ?_
  rintro x w1 ⟨rfl, hb1⟩
  clear g0 g1
  have hB := Lib.hid (HL.out.trans (hb1.mono HL.out.size))
  by_cases he : e = 0
  · subst he
    obtain rfl : s = [] := hz.elim (fun h => absurd rfl h) id
    go_wp2
    exact bodyPost_ret (v := .tuple #[.int .i64 0, .int .i64 0, .bool false]) (by simp [results, Tryd.results26, go_sem]) rfl ⟨rfl, hB.out⟩
  · have hne : (e != 0) = true := bne_iff_ne.2 he
    clear hz he
    go_wp2
    exact bodyPost_ret (v := .tuple #[.int .i64 0, .int .i64 0, .bool false]) (by simp [results, Tryd.results26, go_sem]) rfl ⟨rfl, hB.out⟩

set_option maxRecDepth 100000 in
set_option maxHeartbeats 2000000 in
theorem rstep_some (kind : Int) (A : Option Addr) (n c : Nat) (codes : List Int) (a : UInt8) (t : List UInt8) (w : World) (h : Reads w w.heap.size 1 A n (codes.map iv)) (hC : CkE kind codes 0) (hs : (a :: t).length ≤ 1000000) :
    Calls Tryd.prog 26 #[.agg #[.int .i64 kind, .slice A n c], .string ⟨(a :: t).toArray⟩] w fun x w' => x = .returned (trip64 (stepK (cdOf kind codes) (a :: t))) ∧ Below w.heap.size w w' := by
  have HB := Lib.hid (Blk.new w 26 #[.int .i64 kind, .slice A n c])
  have hL := below_new w (.cells #[.int .i64 kind, .slice A n c] 26)
  have HL := Lib.hid hL
  have HR := Lib.hid (h.stay hL)
  have HC := Lib.hid hC
  have g0 := HB.out.cell 0
  have g1 := HB.out.cell 1
  have hl : codes.length = n := by have := h.1; simpa using this
  have Hl := Lib.hid hl
  obtain ⟨s, hS⟩ : ∃ s, s = a :: t := ⟨_, rfl⟩
  have hq0 : (s == ([] : List UInt8)) = false := by rw [hS]; rfl
  have hq1 : s.isEmpty = false := by rw [hS]; rfl
  have hq2 : ¬ s = [] := by rw [hS]; simp
  have hpos : (0 : Int) < (s.length : Int) := by rw [hS]; simp
  have ha : s[0]? = some a := by rw [hS]; rfl
  rw [← hS] at hs ⊢
  have Ha := Lib.hid ha
  have HS := Lib.hid hS
  clear hL h hl ha hS
  go_enter Tryd.func26, Tryd.ntmps26
  go_wp2_with fail
  clear hq0 hq1 hq2
  refine (rcheck_any kind A n c codes 0 _ HR.out HC.out).mono ?_
  rintro x w1 ⟨rfl, hb1⟩
  clear g0 g1
  have hq0 : (s == ([] : List UInt8)) = false := by rw [HS.out]; rfl
  have hq2 : ¬ s = [] := by rw [HS.out]; simp
  have g0 := (HB.out.stay hb1).cell 0
  have g1 := (HB.out.stay hb1).cell 1
  have HR1 := Lib.hid (HR.out.stay hb1)
  have hB := Lib.hid (HL.out.trans (hb1.mono HL.out.size))
  clear hb1
  rcases HC.out with ⟨hk | hk | hk, _⟩ | ⟨hk, hCc⟩ | ⟨_, h0⟩
  · subst hk
    obtain ⟨⟨z, m, b⟩, hr⟩ : ∃ r, step8 s = r := ⟨_, rfl⟩
    have Hr := Lib.hid hr
    have Hk : Hid (stepK (cdOf 1 codes) s = (z, m, b)) := Lib.hid hr
    clear hr
    go_wp2_with fail
    refine (rstep8H s z m b _ hs Hr.out).mono ?_
    rintro x w2 ⟨rfl, rfl⟩
    go_wp2
    exact bodyPost_ret (v := .tuple #[.int .i64 (z : Int), .int .i64 (m : Int), .bool b]) (by simp [results, Tryd.results26, go_sem]) rfl ⟨by rw [Hk.out]; rfl, hB.out⟩
  · subst hk
    obtain ⟨⟨z, m, b⟩, hr⟩ : ∃ r, step16 true s = r := ⟨_, rfl⟩
    have Hr := Lib.hid hr
    have Hk : Hid (stepK (cdOf 2 codes) s = (z, m, b)) := Lib.hid hr
    clear hr
    go_wp2_with fail
    refine (wide_any s true _ hs).mono ?_
    rintro x w2 ⟨rfl, hb2⟩
    rw [Hr.out]
    simp only [trip64]
    go_wp2
    exact bodyPost_ret (v := .tuple #[.int .i64 (z : Int), .int .i64 (m : Int), .bool b]) (by simp [results, Tryd.results26, go_sem]) rfl ⟨by rw [Hk.out]; rfl, hB.out.trans (hb2.mono hB.out.size)⟩
  · subst hk
    obtain ⟨⟨z, m, b⟩, hr⟩ : ∃ r, step16 false s = r := ⟨_, rfl⟩
    have Hr := Lib.hid hr
    have Hk : Hid (stepK (cdOf 3 codes) s = (z, m, b)) := Lib.hid hr
    clear hr
    go_wp2_with fail
    refine (wide_any s false _ hs).mono ?_
    rintro x w2 ⟨rfl, hb2⟩
    rw [Hr.out]
    simp only [trip64]
    go_wp2
    exact bodyPost_ret (v := .tuple #[.int .i64 (z : Int), .int .i64 (m : Int), .bool b]) (by simp [results, Tryd.results26, go_sem]) rfl ⟨by rw [Hk.out]; rfl, hB.out.trans (hb2.mono hB.out.size)⟩
  · subst hk
    have hg := CkC_zero.1 hCc
    have hn : n = 256 := by have := hg.1; have := Hl.out; omega
    subst hn
    have h0 : 0 < s.length := by rw [HS.out]; simp
    obtain ⟨b, hb, hb2, hb256⟩ := byte8_at (s := s) (k := 0) h0
    have hbb : a.toNat = b := by
      have hb0 := Ha.out
      rw [List.getElem?_eq_getElem h0] at hb0; cases hb0; exact hb2
    obtain ⟨ad, u, rfl, _, hu, hcell⟩ := HR1.out.at_ (k := b) (by omega)
    obtain ⟨x, hx, rfl⟩ := iv_at hu
    have He := Lib.hid (stepOne_at Ha.out (by rw [hbb]; exact hx))
    have h0d : decide (0 < s.length) = true := by simp; omega
    have hbi : (b : Int) < 256 := by omega
    clear hu hx hCc hg hb2 hbb
    by_cases hx0 : x < 0
    · have Hx := Lib.hid (He.out.trans (if_pos hx0))
      go_wp2_with fail
      go_quiet (fail)
      go_wp2
      exact bodyPost_ret (v := .tuple #[.int .i64 0, .int .i64 1, .bool false]) (by simp [results, Tryd.results26, go_sem]) rfl ⟨by rw [show stepK (cdOf 4 codes) s = _ from Hx.out]; rfl, below_drewN hB.out _⟩
    · have Hx := Lib.hid (He.out.trans (if_neg hx0))
      have Hn := Lib.hid (show (x.toNat : Int) = x by omega)
      go_wp2_with fail
      go_quiet (fail)
      go_wp2
      exact bodyPost_ret (v := .tuple #[.int .i64 x, .int .i64 1, .bool true]) (by simp [results, Tryd.results26, go_sem]) rfl ⟨by rw [show stepK (cdOf 4 codes) s = _ from Hx.out, trip64]; simp only; rw [Hn.out]; rfl, below_drewN hB.out _⟩
  · exact absurd h0 (by decide)

theorem rstep_any (kind : Int) (A : Option Addr) (n c : Nat) (codes : List Int) (e : Int) (s : List UInt8) (w : World) (h : Reads w w.heap.size 1 A n (codes.map iv)) (hC : CkE kind codes e) (hs : s.length ≤ 1000000) :
    Calls Tryd.prog 26 #[.agg #[.int .i64 kind, .slice A n c], .string ⟨s.toArray⟩] w fun x w' => x = .returned (trip64 (stR e (cdOf kind codes) s)) ∧ Below w.heap.size w w' := by
  unfold stR
  by_cases he : e = 0
  · subst he
    rw [if_pos rfl]
    cases s with
    | nil => rw [stepK_nil]; exact rstep_none kind A n c codes 0 [] w h hC (Or.inr rfl)
    | cons a t => exact rstep_some kind A n c codes a t w h hC hs
  · rw [if_neg he]; exact rstep_none kind A n c codes e s w h hC (Or.inl he)
end Go.Proofs.YtbcbmmgfdobdiaaDoor
/- The reference's Put (layer 7): without a form, UTF-8, a charset. -/
namespace Go.Proofs.YtbcbmmgfdobdiaaDoor
open Go.RowKit

theorem formK_no {kind : Int} {codes : List Int} {x : Int} (hC : CkE kind codes 0) (hx : scalB x = false) : formK (cdOf kind codes) x = none := by
  cases hf : formK (cdOf kind codes) x with
  | none => rfl
  | some y =>
    have := (stepK_form (good_cd hC) hf []).2.2
    rw [hx] at this; cases this

set_option maxRecDepth 100000 in
set_option maxHeartbeats 2000000 in
theorem rput_none (kind : Int) (A : Option Addr) (n c : Nat) (codes : List Int) (e x : Int) (w : World) (h : Reads w w.heap.size 1 A n (codes.map iv)) (hC : CkE kind codes e) (hz : e ≠ 0 ∨ scalB x = false) :
    Calls Tryd.prog 29 #[.agg #[.int .i64 kind, .slice A n c], .int .i64 x] w fun r w' => r = .returned (formV none) ∧ Below w.heap.size w w' := by
  have HB := Lib.hid (Blk.new w 26 #[.int .i64 kind, .slice A n c])
  have hL := below_new w (.cells #[.int .i64 kind, .slice A n c] 26)
  have HL := Lib.hid hL
  have HR := Lib.hid (h.stay hL)
  have HC := Lib.hid hC
  have g0 := HB.out.cell 0
  have g1 := HB.out.cell 1
  clear hL h hC
  go_enter Tryd.func29, Tryd.ntmps29
  go_wp2_with fail
  refine (rcheck_any kind A n c codes e _ HR.out HC.out).mono ?_
  rintro r w1 ⟨rfl, hb1⟩
  clear g0 g1
  have hB := Lib.hid (HL.out.trans (hb1.mono HL.out.size))
  by_cases he : e = 0
  · subst he
    have Hx := Lib.hid (show scalB x = false from hz.elim (fun h => absurd rfl h) id)
    clear hz
    go_wp2_with fail
    refine (rscalar_any x _).mono ?_
    rintro r w2 ⟨rfl, rfl⟩
    rw [Hx.out]
    go_wp2
    exact bodyPost_ret (v := .tuple #[.string ⟨([] : List UInt8).toArray⟩, .bool false]) (by simp [results, Tryd.results29, go_sem]) rfl ⟨rfl, hB.out⟩
  · have hne : (e != 0) = true := bne_iff_ne.2 he
    clear hz he
    go_wp2
    exact bodyPost_ret (v := .tuple #[.string ⟨([] : List UInt8).toArray⟩, .bool false]) (by simp [results, Tryd.results29, go_sem]) rfl ⟨rfl, hB.out⟩

set_option maxRecDepth 100000 in
set_option maxHeartbeats 2000000 in
theorem rput_u8 (A : Option Addr) (n c : Nat) (codes : List Int) (x : Int) (w : World) (h : Reads w w.heap.size 1 A n (codes.map iv)) (hC : CkE 1 codes 0) (hx : scalB x = true) :
    Calls Tryd.prog 29 #[.agg #[.int .i64 1, .slice A n c], .int .i64 x] w fun r w' => r = .returned (formV (formK (cdOf 1 codes) x)) ∧ Below w.heap.size w w' := by
  have HB := Lib.hid (Blk.new w 26 #[.int .i64 1, .slice A n c])
  have hL := below_new w (.cells #[.int .i64 1, .slice A n c] 26)
  have HL := Lib.hid hL
  have HR := Lib.hid (h.stay hL)
  have HC := Lib.hid hC
  have Hx := Lib.hid hx
  have He := Lib.hid (show formK (cdOf 1 codes) x = some (form8 x.toNat) by show formK .u8 x = _; simp only [formK]; rw [if_pos hx])
  have g0 := HB.out.cell 0
  have g1 := HB.out.cell 1
  clear hL h hC hx
  go_enter Tryd.func29, Tryd.ntmps29
  go_wp2_with fail
  refine (rcheck_any 1 A n c codes 0 _ HR.out HC.out).mono ?_
  rintro r w1 ⟨rfl, hb1⟩
  clear g0 g1
  have hB := Lib.hid (HL.out.trans (hb1.mono HL.out.size))
  have g0 := (HB.out.stay hb1).cell 0
  have g1 := (HB.out.stay hb1).cell 1
  go_wp2_with fail
  refine (rscalar_any x _).mono ?_
  rintro r w2 ⟨rfl, rfl⟩
  rw [Hx.out]
  have R := Lib.hid (reads_new w1 #[.int .i64 x] 3 ([x].map iv) rfl)
  have bn := Lib.hid (below_new w1 (.cells #[.int .i64 x] 3))
  go_wp2_with fail
  refine (rencode8_any 1 1 _ [x] 1 _ (R.out.more (by simp)) (by omega)).mono ?_
  rintro r w3 ⟨rfl, hb3⟩
  have bx : Below w1.heap.size w1 w3 := bn.out.trans (hb3.mono bn.out.size)
  have b3 := hB.out.trans (bx.mono hB.out.size)
  rw [enc8_one, Hx.out]
  rw [if_pos rfl]
  clear hb3 bx
  have b4 := Lib.hid (b3.alloc b3.size (.cells #[.int .i64 0, .int .i64 0] 37))
  clear b3
  go_wp2
  exact bodyPost_ret (v := .tuple #[.string ⟨(form8 x.toNat).toArray⟩, .bool true]) (by simp [results, Tryd.results29, go_sem]) rfl ⟨by rw [He.out]; rfl, b4.out⟩

theorem place_first {codes : List Int} {k : Nat} {x : Int} (hk : codes[k]? = some x) (hn : x ∉ codes.take k) : placeOf codes x = some k := by
  unfold placeOf
  rw [List.findIdx?_eq_some_iff_getElem]
  obtain ⟨h1, h2⟩ := List.getElem?_eq_some_iff.1 hk
  refine ⟨h1, by simp [h2], fun j hj => ?_⟩
  have hj1 : j < codes.length := by omega
  simp only [decide_eq_true_eq]
  intro he
  exact hn (idx_take hj (by rw [List.getElem?_eq_getElem hj1, he]))
theorem place_miss {codes : List Int} {x : Int} (hn : x ∉ codes) : placeOf codes x = none := by
  unfold placeOf
  rw [List.findIdx?_eq_none_iff]
  intro y hy
  simp only [decide_eq_false_iff_not]
  rintro rfl
  exact hn hy

set_option maxRecDepth 100000 in
set_option maxHeartbeats 2000000 in
theorem rput_one (A : Option Addr) (n c : Nat) (codes : List Int) (x : Int) (w : World) (h : Reads w w.heap.size 1 A n (codes.map iv)) (hC : CkE 4 codes 0) (hx : scalB x = true) :
    Calls Tryd.prog 29 #[.agg #[.int .i64 4, .slice A n c], .int .i64 x] w fun r w' => r = .returned (formV (formK (cdOf 4 codes) x)) ∧ Below w.heap.size w w' := by
  have HB := Lib.hid (Blk.new w 26 #[.int .i64 4, .slice A n c])
  have hL := below_new w (.cells #[.int .i64 4, .slice A n c] 26)
  have HL := Lib.hid hL
  have HR := Lib.hid (h.stay hL)
  have HC := Lib.hid hC
  have Hx := Lib.hid hx
  have hl : codes.length = n := by have := h.1; simpa using this
  have hg : GoodCs codes := CkC_zero.1 (by rcases hC with ⟨h, _⟩ | ⟨_, h⟩ | ⟨_, h⟩; omega; exact h; exact absurd h (by decide))
  obtain rfl : n = 256 := by have := hg.1; omega
  have Hl := Lib.hid hl
  have hx0 : 0 ≤ x := by simp only [scalB, decide_eq_true_eq] at hx; omega
  have HF := Lib.hid (show ∀ o, placeOf codes x = o → formK (cdOf 4 codes) x = o.map fun i => [UInt8.ofNat i] from fun o ho => by
    show formK (.one codes) x = _
    simp only [formK]; rw [if_neg (by omega), ho])
  have g0 := HB.out.cell 0
  have g1 := HB.out.cell 1
  clear hL h hC hx hl hg hx0
  go_enter Tryd.func29, Tryd.ntmps29
  go_wp2_with fail
  refine (rcheck_any 4 A 256 c codes 0 _ HR.out HC.out).mono ?_
  rintro r w1 ⟨rfl, hb1⟩
  clear g0 g1
  have hB := Lib.hid (HL.out.trans (hb1.mono HL.out.size))
  have g0 := (HB.out.stay hb1).cell 0
  have g1 := (HB.out.stay hb1).cell 1
  have HR1 := Lib.hid (HR.out.stay hb1)
  clear hb1
  go_wp2_with fail
  refine (rscalar_any x _).mono ?_
  rintro r w2 ⟨rfl, rfl⟩
  rw [Hx.out]
  go_wp2
  go_loop [8] (fun i => ∃ k : Nat, k ≤ 256 ∧ i = .int .i64 (k : Int) ∧ Hid (x ∉ codes.take k)) (fun i => 256 - (intOf i).toNat)
  case atStart => exact ⟨0, by omega, rfl, Lib.hid (by simp)⟩
  case round =>
    obtain ⟨k, hk, rfl, Hk⟩ := hrel
    by_cases hlt : k < 256
    · have hlt' : (k : Int) < 256 := by omega
      obtain ⟨ad, u, rfl, _, hu, hcell⟩ := HR1.out.at_ hlt
      obtain ⟨y, hy, rfl⟩ := iv_at hu
      clear hu
      by_cases hyx : y = x
      · subst hyx
        have He := Lib.hid (HF.out _ (place_first hy Hk.out))
        have hcv := conv_new (P := Tryd.prog) w1 Tryd.underlying92 Tryd.underlying5 Tryd.underlying9 #[.int .u8 (k : Int)] [UInt8.ofNat k] (by rw [List.map_cons, List.map_nil, bv_ofNat k hlt]) 1 rfl
        have B2 := Lib.hid (hB.out.alloc hB.out.size (.cells #[.int .u8 (k : Int)] 5))
        have hwk : IntKind.u8.wrap (k : Int) = (k : Int) := by simp [IntKind.wrap, IntKind.bits, IntKind.signed]; omega
        clear hy
        go_wp2
        exact bodyPost_ret (v := .tuple #[.string ⟨[UInt8.ofNat k].toArray⟩, .bool true]) (by simp [results, Tryd.results29, go_sem]) rfl ⟨by rw [He.out]; rfl, B2.out⟩
      · have hyx' : (y == x) = false := by simpa using hyx
        have H : Hid (x ∉ codes.take (k + 1)) := Lib.hid (by
          obtain ⟨hkl, he⟩ := List.getElem?_eq_some_iff.1 hy
          rw [List.take_succ_eq_append_getElem hkl, he, List.mem_append]
          rintro (h | h)
          · exact Hk.out h
          · simp at h; exact hyx h.symm)
        clear hy hyx
        go_wp2
        go_round
        case rel => exact ⟨k + 1, by omega, by go_num, H⟩
        case measure => simp [intOf]; omega
    · have He := Lib.hid (HF.out _ (place_miss (by have := Hk.out; rwa [List.take_of_length_le (by have := Hl.out; omega)] at this)))
      have hlt' : ¬ (k : Int) < 256 := by omega
      go_wp2
      exact bodyPost_ret (v := .tuple #[.string ⟨([] : List UInt8).toArray⟩, .bool false]) (by simp [results, Tryd.results29, go_sem]) rfl ⟨by rw [He.out]; rfl, hB.out⟩
end Go.Proofs.YtbcbmmgfdobdiaaDoor
/- The reference's Put (layer 7) with units of two bytes (printed by gen_rk6.py). -/
namespace Go.Proofs.YtbcbmmgfdobdiaaDoor
open Go.RowKit

theorem form16_le (x : Int) : (form16 x).length ≤ 100000 := by unfold form16; repeat (first | exact Nat.le_of_ble_eq_true rfl | split)
set_option maxRecDepth 100000 in
set_option maxHeartbeats 4000000 in
theorem rput_u16 (kind : Int) (big : Bool) (A : Option Addr) (n c : Nat) (codes : List Int) (x : Int) (w : World) (h : Reads w w.heap.size 1 A n (codes.map iv)) (hk : (kind = 2 ∧ big = true) ∨ (kind = 3 ∧ big = false)) (hx : scalB x = true) :
    Calls Tryd.prog 29 #[.agg #[.int .i64 kind, .slice A n c], .int .i64 x] w fun r w' => r = .returned (formV (formK (cdOf kind codes) x)) ∧ Below w.heap.size w w' := by
  have HB := Lib.hid (Blk.new w 26 #[.int .i64 kind, .slice A n c])
  have hL := below_new w (.cells #[.int .i64 kind, .slice A n c] 26)
  have HL := Lib.hid hL
  have HR := Lib.hid (h.stay hL)
  have HC := Lib.hid (show CkE kind codes 0 from Or.inl ⟨by omega, rfl⟩)
  have Hx := Lib.hid hx
  have He := Lib.hid (show formK (cdOf kind codes) x = some (formL16 big x.toNat) by
    rcases hk with ⟨rfl, rfl⟩ | ⟨rfl, rfl⟩
    · show formK (.u16 true) x = _; simp only [formK]; rw [if_pos hx]
    · show formK (.u16 false) x = _; simp only [formK]; rw [if_pos hx])
  have hq1 : (kind == 1) = false := by simp; omega
  have hq4 : (kind == 4) = false := by simp; omega
  have Hq := Lib.hid (show (kind == 2) = big by rcases hk with ⟨rfl, rfl⟩ | ⟨rfl, rfl⟩ <;> rfl)
  have g0 := HB.out.cell 0
  have g1 := HB.out.cell 1
  clear hL h hx hk
  go_enter Tryd.func29, Tryd.ntmps29
  go_wp2_with fail
  refine (rcheck_any kind A n c codes 0 _ HR.out HC.out).mono ?_
  rintro r w1 ⟨rfl, hb1⟩
  clear g0 g1
  have hB := Lib.hid (HL.out.trans (hb1.mono HL.out.size))
  have HB1 := Lib.hid (HB.out.stay hb1)
  have K0 := Lib.hid (show ∀ w', Below w1.heap.size w1 w' → w'.cell? ⟨w.heap.size, 0, none⟩ = some (.int .i64 kind) from fun w' hb => (HB1.out.stay hb).cell 0)
  clear hb1
  go_wp2_with fail
  refine (rscalar_any x _).mono ?_
  rintro r w2 ⟨rfl, rfl⟩
  rw [Hx.out]
  have g0 := HB1.out.cell 0
  have g1 := HB1.out.cell 1
  go_wp2_with fail
  clear g0 g1
  have hq2 := Hq.out
  refine wp_region_any (by kernel_rfl) ?_
  change wpAny _ _ _ _ _ _ _ (World.drew _)
  refine wpAny_gen (p := fun W => Below w1.heap.size w1 W) (Below.refl _ _).drew ?_
  intro w0 hbc
  refine wpAny_take (i := 0) (v := .int .i64 x) rfl (by kernel_rfl) (by kernel_rfl) (by kernel_rfl) (fun _ _ _ h => h) (Or.inl ⟨by rfl, by intro w; go_simp⟩) ?_
  refine wpAny_take (i := 2) (v := .pointer (some ⟨w.heap.size, 0, none⟩)) rfl (by kernel_rfl) (by kernel_rfl) (by kernel_rfl) (fun _ _ _ h => h) (Or.inl ⟨by rfl, by intro w; go_simp⟩) ?_
  refine wpAny_ready (rs := [1, 3, 9]) (by kernel_rfl) (by simp) ?_
  refine AllReady.cons rfl (fun K hK => ?_) ?_
  · skip
    go_simp
    refine (rform_any x _ Hx.out).mono ?_
    rintro e wa1 ⟨v, rfl, hov, hbu⟩
    obtain ⟨Av, cv, rfl, _, hrd⟩ := val_of_own hov
    replace hbc := hbc.trans (hbu.mono hbc.size)
    clear hov hbu
    refine hK _ _ ?_
    clear hK K
    refine wpAny_ready (rs := [3, 9]) (by kernel_rfl) (by simp) ?_
    refine AllReady.cons rfl (fun K hK => ?_) ?_
    · skip
      have hcl := (K0.out _ hbc)
      go_simp
      clear hcl
      refine hK _ _ ?_
      clear hK K
      refine wpAny_take (i := 4) (v := .bool big) rfl (by kernel_rfl) (by kernel_rfl) (by kernel_rfl) (fun _ _ _ h => h) (Or.inl ⟨by rfl, by intro w; first | go_simp | (simp only [Hq.out]; go_simp)⟩) ?_
      refine wpAny_ready (rs := [5, 9]) (by kernel_rfl) (by simp) ?_
      refine AllReady.cons rfl (fun K hK => ?_) ?_
      · skip
        go_simp
        refine (rbytes_any _ cv Av (form16 x) big false _ hrd (form16_le x)).mono ?_
        rintro e wb2 ⟨rfl, hbu⟩
        rw [bytes_form x big Hx.out]
        replace hbc := hbc.trans (hbu.mono hbc.size)
        clear hbu hrd
        refine hK _ _ ?_
        clear hK K
        refine wpAny_take (i := 6) (v := .tuple #[.string ⟨(formL16 big x.toNat).toArray⟩, .agg #[.int .i64 0, .int .i64 0]]) rfl (by kernel_rfl) (by kernel_rfl) (by kernel_rfl) (fun _ _ _ h => h) (Or.inl ⟨by rfl, by intro w; go_simp⟩) ?_
        refine wpAny_take (i := 7) (v := .string ⟨(formL16 big x.toNat).toArray⟩) rfl (by kernel_rfl) (by kernel_rfl) (by kernel_rfl) (fun _ _ _ h => h) (Or.inl ⟨by rfl, by intro w; go_simp⟩) ?_
        refine wpAny_take (i := 8) (v := .agg #[.int .i64 0, .int .i64 0]) rfl (by kernel_rfl) (by kernel_rfl) (by kernel_rfl) (fun _ _ _ h => h) (Or.inl ⟨by rfl, by intro w; go_simp⟩) ?_
        refine wpAny_ready (rs := [9]) (by kernel_rfl) (by simp) ?_
        refine AllReady.cons rfl (fun K hK => ?_) AllReady.nil
        go_simp
        refine hK _ _ ?_
        clear hK K
        have hgg := hbc.size
        refine wpAny_gen (p := fun W => Below w1.heap.size w1 W ∧ Blk W wb2.heap.size 37 #[.int .i64 0, .int .i64 0]) ⟨hbc.alloc hbc.size _, Blk.new _ _ _⟩ ?_
        clear hbc
        rintro wf3 ⟨hbc, hF⟩
        refine wpAny_take (i := 10) (v := .string ⟨(formL16 big x.toNat).toArray⟩) rfl (by kernel_rfl) (by kernel_rfl) (by kernel_rfl) (fun _ _ _ h => h) (Or.inl ⟨by rfl, by intro w; go_simp⟩) ?_
        have z0 := hF.cell 0
        have z1 := hF.cell 1
        have f0 := hF.frozen 0
        have f1 := hF.frozen 1
        refine wpAny_ready (rs := [11]) (by kernel_rfl) (by simp) ?_
        refine AllReady.cons rfl (fun K hK => ?_) AllReady.nil
        go_simp
        refine hK _ _ ?_
        clear hK K
        refine wpAny_done (by kernel_rfl) ?_ _
        have bF := (hbc.setCell (p := ⟨wb2.heap.size, 0, none⟩) hgg (.int .i64 0)).setCell (p := ⟨wb2.heap.size, 1, none⟩) hgg (.int .i64 0)
        obtain ⟨wz, hwz⟩ : ∃ wz, wz = (World.setCell (World.setCell wf3 ⟨wb2.heap.size, 0, none⟩ (.int .i64 0)) ⟨wb2.heap.size, 1, none⟩ (.int .i64 0)) := ⟨_, rfl⟩
        rw [← hwz] at bF ⊢
        clear hwz z0 z1 f0 f1
        go_wp2
        exact bodyPost_ret (v := .tuple #[.string ⟨(formL16 big x.toNat).toArray⟩, .bool true]) (by simp [results, Tryd.results29, go_sem]) rfl ⟨by rw [He.out]; rfl, hB.out.trans (bF.mono hB.out.size)⟩
      · skip
        refine AllReady.cons rfl (fun K hK => ?_) AllReady.nil
        go_simp
        refine hK _ _ ?_
        clear hK K
        have hgg := hbc.size
        refine wpAny_gen (p := fun W => Below w1.heap.size w1 W ∧ Blk W wa1.heap.size 37 #[.int .i64 0, .int .i64 0] ∧ Reads W W.heap.size 1 Av (form16 x).length ((form16 x).map iv)) ⟨hbc.alloc hbc.size _, Blk.new _ _ _, hrd.stay (below_new _ _)⟩ ?_
        clear hbc hrd
        rintro wf4 ⟨hbc, hF, hrd⟩
        refine wpAny_ready (rs := [5]) (by kernel_rfl) (by simp) ?_
        refine AllReady.cons rfl (fun K hK => ?_) AllReady.nil
        go_simp
        refine (rbytes_any _ cv Av (form16 x) big false _ hrd (form16_le x)).mono ?_
        rintro e wb5 ⟨rfl, hbu⟩
        rw [bytes_form x big Hx.out]
        replace hF := hF.stay hbu
        replace hbc := hbc.trans (hbu.mono hbc.size)
        clear hbu hrd
        refine hK _ _ ?_
        clear hK K
        refine wpAny_take (i := 6) (v := .tuple #[.string ⟨(formL16 big x.toNat).toArray⟩, .agg #[.int .i64 0, .int .i64 0]]) rfl (by kernel_rfl) (by kernel_rfl) (by kernel_rfl) (fun _ _ _ h => h) (Or.inl ⟨by rfl, by intro w; go_simp⟩) ?_
        refine wpAny_take (i := 7) (v := .string ⟨(formL16 big x.toNat).toArray⟩) rfl (by kernel_rfl) (by kernel_rfl) (by kernel_rfl) (fun _ _ _ h => h) (Or.inl ⟨by rfl, by intro w; go_simp⟩) ?_
        refine wpAny_take (i := 8) (v := .agg #[.int .i64 0, .int .i64 0]) rfl (by kernel_rfl) (by kernel_rfl) (by kernel_rfl) (fun _ _ _ h => h) (Or.inl ⟨by rfl, by intro w; go_simp⟩) ?_
        refine wpAny_take (i := 10) (v := .string ⟨(formL16 big x.toNat).toArray⟩) rfl (by kernel_rfl) (by kernel_rfl) (by kernel_rfl) (fun _ _ _ h => h) (Or.inl ⟨by rfl, by intro w; go_simp⟩) ?_
        have z0 := hF.cell 0
        have z1 := hF.cell 1
        have f0 := hF.frozen 0
        have f1 := hF.frozen 1
        refine wpAny_ready (rs := [11]) (by kernel_rfl) (by simp) ?_
        refine AllReady.cons rfl (fun K hK => ?_) AllReady.nil
        go_simp
        refine hK _ _ ?_
        clear hK K
        refine wpAny_done (by kernel_rfl) ?_ _
        have bF := (hbc.setCell (p := ⟨wa1.heap.size, 0, none⟩) hgg (.int .i64 0)).setCell (p := ⟨wa1.heap.size, 1, none⟩) hgg (.int .i64 0)
        obtain ⟨wz, hwz⟩ : ∃ wz, wz = (World.setCell (World.setCell wb5 ⟨wa1.heap.size, 0, none⟩ (.int .i64 0)) ⟨wa1.heap.size, 1, none⟩ (.int .i64 0)) := ⟨_, rfl⟩
        rw [← hwz] at bF ⊢
        clear hwz z0 z1 f0 f1
        go_wp2
        exact bodyPost_ret (v := .tuple #[.string ⟨(formL16 big x.toNat).toArray⟩, .bool true]) (by simp [results, Tryd.results29, go_sem]) rfl ⟨by rw [He.out]; rfl, hB.out.trans (bF.mono hB.out.size)⟩
    · skip
      refine AllReady.cons rfl (fun K hK => ?_) AllReady.nil
      go_simp
      refine hK _ _ ?_
      clear hK K
      have hgg := hbc.size
      refine wpAny_gen (p := fun W => Below w1.heap.size w1 W ∧ Blk W wa1.heap.size 37 #[.int .i64 0, .int .i64 0] ∧ Reads W W.heap.size 1 Av (form16 x).length ((form16 x).map iv)) ⟨hbc.alloc hbc.size _, Blk.new _ _ _, hrd.stay (below_new _ _)⟩ ?_
      clear hbc hrd
      rintro wf6 ⟨hbc, hF, hrd⟩
      refine wpAny_ready (rs := [3]) (by kernel_rfl) (by simp) ?_
      refine AllReady.cons rfl (fun K hK => ?_) AllReady.nil
      have hcl := (K0.out _ hbc)
      go_simp
      clear hcl
      refine hK _ _ ?_
      clear hK K
      refine wpAny_take (i := 4) (v := .bool big) rfl (by kernel_rfl) (by kernel_rfl) (by kernel_rfl) (fun _ _ _ h => h) (Or.inl ⟨by rfl, by intro w; first | go_simp | (simp only [Hq.out]; go_simp)⟩) ?_
      refine wpAny_ready (rs := [5]) (by kernel_rfl) (by simp) ?_
      refine AllReady.cons rfl (fun K hK => ?_) AllReady.nil
      go_simp
      refine (rbytes_any _ cv Av (form16 x) big false _ hrd (form16_le x)).mono ?_
      rintro e wb7 ⟨rfl, hbu⟩
      rw [bytes_form x big Hx.out]
      replace hF := hF.stay hbu
      replace hbc := hbc.trans (hbu.mono hbc.size)
      clear hbu hrd
      refine hK _ _ ?_
      clear hK K
      refine wpAny_take (i := 6) (v := .tuple #[.string ⟨(formL16 big x.toNat).toArray⟩, .agg #[.int .i64 0, .int .i64 0]]) rfl (by kernel_rfl) (by kernel_rfl) (by kernel_rfl) (fun _ _ _ h => h) (Or.inl ⟨by rfl, by intro w; go_simp⟩) ?_
      refine wpAny_take (i := 7) (v := .string ⟨(formL16 big x.toNat).toArray⟩) rfl (by kernel_rfl) (by kernel_rfl) (by kernel_rfl) (fun _ _ _ h => h) (Or.inl ⟨by rfl, by intro w; go_simp⟩) ?_
      refine wpAny_take (i := 8) (v := .agg #[.int .i64 0, .int .i64 0]) rfl (by kernel_rfl) (by kernel_rfl) (by kernel_rfl) (fun _ _ _ h => h) (Or.inl ⟨by rfl, by intro w; go_simp⟩) ?_
      refine wpAny_take (i := 10) (v := .string ⟨(formL16 big x.toNat).toArray⟩) rfl (by kernel_rfl) (by kernel_rfl) (by kernel_rfl) (fun _ _ _ h => h) (Or.inl ⟨by rfl, by intro w; go_simp⟩) ?_
      have z0 := hF.cell 0
      have z1 := hF.cell 1
      have f0 := hF.frozen 0
      have f1 := hF.frozen 1
      refine wpAny_ready (rs := [11]) (by kernel_rfl) (by simp) ?_
      refine AllReady.cons rfl (fun K hK => ?_) AllReady.nil
      go_simp
      refine hK _ _ ?_
      clear hK K
      refine wpAny_done (by kernel_rfl) ?_ _
      have bF := (hbc.setCell (p := ⟨wa1.heap.size, 0, none⟩) hgg (.int .i64 0)).setCell (p := ⟨wa1.heap.size, 1, none⟩) hgg (.int .i64 0)
      obtain ⟨wz, hwz⟩ : ∃ wz, wz = (World.setCell (World.setCell wb7 ⟨wa1.heap.size, 0, none⟩ (.int .i64 0)) ⟨wa1.heap.size, 1, none⟩ (.int .i64 0)) := ⟨_, rfl⟩
      rw [← hwz] at bF ⊢
      clear hwz z0 z1 f0 f1
      go_wp2
      exact bodyPost_ret (v := .tuple #[.string ⟨(formL16 big x.toNat).toArray⟩, .bool true]) (by simp [results, Tryd.results29, go_sem]) rfl ⟨by rw [He.out]; rfl, hB.out.trans (bF.mono hB.out.size)⟩
  · skip
    refine AllReady.cons rfl (fun K hK => ?_) ?_
    · skip
      have hcl := (K0.out _ hbc)
      go_simp
      clear hcl
      refine hK _ _ ?_
      clear hK K
      refine wpAny_take (i := 4) (v := .bool big) rfl (by kernel_rfl) (by kernel_rfl) (by kernel_rfl) (fun _ _ _ h => h) (Or.inl ⟨by rfl, by intro w; first | go_simp | (simp only [Hq.out]; go_simp)⟩) ?_
      refine wpAny_ready (rs := [1, 9]) (by kernel_rfl) (by simp) ?_
      refine AllReady.cons rfl (fun K hK => ?_) ?_
      · skip
        go_simp
        refine (rform_any x _ Hx.out).mono ?_
        rintro e wa8 ⟨v, rfl, hov, hbu⟩
        obtain ⟨Av, cv, rfl, _, hrd⟩ := val_of_own hov
        replace hbc := hbc.trans (hbu.mono hbc.size)
        clear hov hbu
        refine hK _ _ ?_
        clear hK K
        refine wpAny_ready (rs := [5, 9]) (by kernel_rfl) (by simp) ?_
        refine AllReady.cons rfl (fun K hK => ?_) ?_
        · skip
          go_simp
          refine (rbytes_any _ cv Av (form16 x) big false _ hrd (form16_le x)).mono ?_
          rintro e wb9 ⟨rfl, hbu⟩
          rw [bytes_form x big Hx.out]
          replace hbc := hbc.trans (hbu.mono hbc.size)
          clear hbu hrd
          refine hK _ _ ?_
          clear hK K
          refine wpAny_take (i := 6) (v := .tuple #[.string ⟨(formL16 big x.toNat).toArray⟩, .agg #[.int .i64 0, .int .i64 0]]) rfl (by kernel_rfl) (by kernel_rfl) (by kernel_rfl) (fun _ _ _ h => h) (Or.inl ⟨by rfl, by intro w; go_simp⟩) ?_
          refine wpAny_take (i := 7) (v := .string ⟨(formL16 big x.toNat).toArray⟩) rfl (by kernel_rfl) (by kernel_rfl) (by kernel_rfl) (fun _ _ _ h => h) (Or.inl ⟨by rfl, by intro w; go_simp⟩) ?_
          refine wpAny_take (i := 8) (v := .agg #[.int .i64 0, .int .i64 0]) rfl (by kernel_rfl) (by kernel_rfl) (by kernel_rfl) (fun _ _ _ h => h) (Or.inl ⟨by rfl, by intro w; go_simp⟩) ?_
          refine wpAny_ready (rs := [9]) (by kernel_rfl) (by simp) ?_
          refine AllReady.cons rfl (fun K hK => ?_) AllReady.nil
          go_simp
          refine hK _ _ ?_
          clear hK K
          have hgg := hbc.size
          refine wpAny_gen (p := fun W => Below w1.heap.size w1 W ∧ Blk W wb9.heap.size 37 #[.int .i64 0, .int .i64 0]) ⟨hbc.alloc hbc.size _, Blk.new _ _ _⟩ ?_
          clear hbc
          rintro wf10 ⟨hbc, hF⟩
          refine wpAny_take (i := 10) (v := .string ⟨(formL16 big x.toNat).toArray⟩) rfl (by kernel_rfl) (by kernel_rfl) (by kernel_rfl) (fun _ _ _ h => h) (Or.inl ⟨by rfl, by intro w; go_simp⟩) ?_
          have z0 := hF.cell 0
          have z1 := hF.cell 1
          have f0 := hF.frozen 0
          have f1 := hF.frozen 1
          refine wpAny_ready (rs := [11]) (by kernel_rfl) (by simp) ?_
          refine AllReady.cons rfl (fun K hK => ?_) AllReady.nil
          go_simp
          refine hK _ _ ?_
          clear hK K
          refine wpAny_done (by kernel_rfl) ?_ _
          have bF := (hbc.setCell (p := ⟨wb9.heap.size, 0, none⟩) hgg (.int .i64 0)).setCell (p := ⟨wb9.heap.size, 1, none⟩) hgg (.int .i64 0)
          obtain ⟨wz, hwz⟩ : ∃ wz, wz = (World.setCell (World.setCell wf10 ⟨wb9.heap.size, 0, none⟩ (.int .i64 0)) ⟨wb9.heap.size, 1, none⟩ (.int .i64 0)) := ⟨_, rfl⟩
          rw [← hwz] at bF ⊢
          clear hwz z0 z1 f0 f1
          go_wp2
          exact bodyPost_ret (v := .tuple #[.string ⟨(formL16 big x.toNat).toArray⟩, .bool true]) (by simp [results, Tryd.results29, go_sem]) rfl ⟨by rw [He.out]; rfl, hB.out.trans (bF.mono hB.out.size)⟩
        · skip
          refine AllReady.cons rfl (fun K hK => ?_) AllReady.nil
          go_simp
          refine hK _ _ ?_
          clear hK K
          have hgg := hbc.size
          refine wpAny_gen (p := fun W => Below w1.heap.size w1 W ∧ Blk W wa8.heap.size 37 #[.int .i64 0, .int .i64 0] ∧ Reads W W.heap.size 1 Av (form16 x).length ((form16 x).map iv)) ⟨hbc.alloc hbc.size _, Blk.new _ _ _, hrd.stay (below_new _ _)⟩ ?_
          clear hbc hrd
          rintro wf11 ⟨hbc, hF, hrd⟩
          refine wpAny_ready (rs := [5]) (by kernel_rfl) (by simp) ?_
          refine AllReady.cons rfl (fun K hK => ?_) AllReady.nil
          go_simp
          refine (rbytes_any _ cv Av (form16 x) big false _ hrd (form16_le x)).mono ?_
          rintro e wb12 ⟨rfl, hbu⟩
          rw [bytes_form x big Hx.out]
          replace hF := hF.stay hbu
          replace hbc := hbc.trans (hbu.mono hbc.size)
          clear hbu hrd
          refine hK _ _ ?_
          clear hK K
          refine wpAny_take (i := 6) (v := .tuple #[.string ⟨(formL16 big x.toNat).toArray⟩, .agg #[.int .i64 0, .int .i64 0]]) rfl (by kernel_rfl) (by kernel_rfl) (by kernel_rfl) (fun _ _ _ h => h) (Or.inl ⟨by rfl, by intro w; go_simp⟩) ?_
          refine wpAny_take (i := 7) (v := .string ⟨(formL16 big x.toNat).toArray⟩) rfl (by kernel_rfl) (by kernel_rfl) (by kernel_rfl) (fun _ _ _ h => h) (Or.inl ⟨by rfl, by intro w; go_simp⟩) ?_
          refine wpAny_take (i := 8) (v := .agg #[.int .i64 0, .int .i64 0]) rfl (by kernel_rfl) (by kernel_rfl) (by kernel_rfl) (fun _ _ _ h => h) (Or.inl ⟨by rfl, by intro w; go_simp⟩) ?_
          refine wpAny_take (i := 10) (v := .string ⟨(formL16 big x.toNat).toArray⟩) rfl (by kernel_rfl) (by kernel_rfl) (by kernel_rfl) (fun _ _ _ h => h) (Or.inl ⟨by rfl, by intro w; go_simp⟩) ?_
          have z0 := hF.cell 0
          have z1 := hF.cell 1
          have f0 := hF.frozen 0
          have f1 := hF.frozen 1
          refine wpAny_ready (rs := [11]) (by kernel_rfl) (by simp) ?_
          refine AllReady.cons rfl (fun K hK => ?_) AllReady.nil
          go_simp
          refine hK _ _ ?_
          clear hK K
          refine wpAny_done (by kernel_rfl) ?_ _
          have bF := (hbc.setCell (p := ⟨wa8.heap.size, 0, none⟩) hgg (.int .i64 0)).setCell (p := ⟨wa8.heap.size, 1, none⟩) hgg (.int .i64 0)
          obtain ⟨wz, hwz⟩ : ∃ wz, wz = (World.setCell (World.setCell wb12 ⟨wa8.heap.size, 0, none⟩ (.int .i64 0)) ⟨wa8.heap.size, 1, none⟩ (.int .i64 0)) := ⟨_, rfl⟩
          rw [← hwz] at bF ⊢
          clear hwz z0 z1 f0 f1
          go_wp2
          exact bodyPost_ret (v := .tuple #[.string ⟨(formL16 big x.toNat).toArray⟩, .bool true]) (by simp [results, Tryd.results29, go_sem]) rfl ⟨by rw [He.out]; rfl, hB.out.trans (bF.mono hB.out.size)⟩
      · skip
        refine AllReady.cons rfl (fun K hK => ?_) AllReady.nil
        go_simp
        refine hK _ _ ?_
        clear hK K
        have hgg := hbc.size
        refine wpAny_gen (p := fun W => Below w1.heap.size w1 W ∧ Blk W w0.heap.size 37 #[.int .i64 0, .int .i64 0]) ⟨hbc.alloc hbc.size _, Blk.new _ _ _⟩ ?_
        clear hbc
        rintro wf13 ⟨hbc, hF⟩
        refine wpAny_ready (rs := [1]) (by kernel_rfl) (by simp) ?_
        refine AllReady.cons rfl (fun K hK => ?_) AllReady.nil
        go_simp
        refine (rform_any x _ Hx.out).mono ?_
        rintro e wa14 ⟨v, rfl, hov, hbu⟩
        obtain ⟨Av, cv, rfl, _, hrd⟩ := val_of_own hov
        replace hF := hF.stay hbu
        replace hbc := hbc.trans (hbu.mono hbc.size)
        clear hov hbu
        refine hK _ _ ?_
        clear hK K
        refine wpAny_ready (rs := [5]) (by kernel_rfl) (by simp) ?_
        refine AllReady.cons rfl (fun K hK => ?_) AllReady.nil
        go_simp
        refine (rbytes_any _ cv Av (form16 x) big false _ hrd (form16_le x)).mono ?_
        rintro e wb15 ⟨rfl, hbu⟩
        rw [bytes_form x big Hx.out]
        replace hF := hF.stay hbu
        replace hbc := hbc.trans (hbu.mono hbc.size)
        clear hbu hrd
        refine hK _ _ ?_
        clear hK K
        refine wpAny_take (i := 6) (v := .tuple #[.string ⟨(formL16 big x.toNat).toArray⟩, .agg #[.int .i64 0, .int .i64 0]]) rfl (by kernel_rfl) (by kernel_rfl) (by kernel_rfl) (fun _ _ _ h => h) (Or.inl ⟨by rfl, by intro w; go_simp⟩) ?_
        refine wpAny_take (i := 7) (v := .string ⟨(formL16 big x.toNat).toArray⟩) rfl (by kernel_rfl) (by kernel_rfl) (by kernel_rfl) (fun _ _ _ h => h) (Or.inl ⟨by rfl, by intro w; go_simp⟩) ?_
        refine wpAny_take (i := 8) (v := .agg #[.int .i64 0, .int .i64 0]) rfl (by kernel_rfl) (by kernel_rfl) (by kernel_rfl) (fun _ _ _ h => h) (Or.inl ⟨by rfl, by intro w; go_simp⟩) ?_
        refine wpAny_take (i := 10) (v := .string ⟨(formL16 big x.toNat).toArray⟩) rfl (by kernel_rfl) (by kernel_rfl) (by kernel_rfl) (fun _ _ _ h => h) (Or.inl ⟨by rfl, by intro w; go_simp⟩) ?_
        have z0 := hF.cell 0
        have z1 := hF.cell 1
        have f0 := hF.frozen 0
        have f1 := hF.frozen 1
        refine wpAny_ready (rs := [11]) (by kernel_rfl) (by simp) ?_
        refine AllReady.cons rfl (fun K hK => ?_) AllReady.nil
        go_simp
        refine hK _ _ ?_
        clear hK K
        refine wpAny_done (by kernel_rfl) ?_ _
        have bF := (hbc.setCell (p := ⟨w0.heap.size, 0, none⟩) hgg (.int .i64 0)).setCell (p := ⟨w0.heap.size, 1, none⟩) hgg (.int .i64 0)
        obtain ⟨wz, hwz⟩ : ∃ wz, wz = (World.setCell (World.setCell wb15 ⟨w0.heap.size, 0, none⟩ (.int .i64 0)) ⟨w0.heap.size, 1, none⟩ (.int .i64 0)) := ⟨_, rfl⟩
        rw [← hwz] at bF ⊢
        clear hwz z0 z1 f0 f1
        go_wp2
        exact bodyPost_ret (v := .tuple #[.string ⟨(formL16 big x.toNat).toArray⟩, .bool true]) (by simp [results, Tryd.results29, go_sem]) rfl ⟨by rw [He.out]; rfl, hB.out.trans (bF.mono hB.out.size)⟩
    · skip
      refine AllReady.cons rfl (fun K hK => ?_) AllReady.nil
      go_simp
      refine hK _ _ ?_
      clear hK K
      have hgg := hbc.size
      refine wpAny_gen (p := fun W => Below w1.heap.size w1 W ∧ Blk W w0.heap.size 37 #[.int .i64 0, .int .i64 0]) ⟨hbc.alloc hbc.size _, Blk.new _ _ _⟩ ?_
      clear hbc
      rintro wf16 ⟨hbc, hF⟩
      refine wpAny_ready (rs := [1, 3]) (by kernel_rfl) (by simp) ?_
      refine AllReady.cons rfl (fun K hK => ?_) ?_
      · skip
        go_simp
        refine (rform_any x _ Hx.out).mono ?_
        rintro e wa17 ⟨v, rfl, hov, hbu⟩
        obtain ⟨Av, cv, rfl, _, hrd⟩ := val_of_own hov
        replace hF := hF.stay hbu
        replace hbc := hbc.trans (hbu.mono hbc.size)
        clear hov hbu
        refine hK _ _ ?_
        clear hK K
        refine wpAny_ready (rs := [3]) (by kernel_rfl) (by simp) ?_
        refine AllReady.cons rfl (fun K hK => ?_) AllReady.nil
        have hcl := (K0.out _ hbc)
        go_simp
        clear hcl
        refine hK _ _ ?_
        clear hK K
        refine wpAny_take (i := 4) (v := .bool big) rfl (by kernel_rfl) (by kernel_rfl) (by kernel_rfl) (fun _ _ _ h => h) (Or.inl ⟨by rfl, by intro w; first | go_simp | (simp only [Hq.out]; go_simp)⟩) ?_
        refine wpAny_ready (rs := [5]) (by kernel_rfl) (by simp) ?_
        refine AllReady.cons rfl (fun K hK => ?_) AllReady.nil
        go_simp
        refine (rbytes_any _ cv Av (form16 x) big false _ hrd (form16_le x)).mono ?_
        rintro e wb18 ⟨rfl, hbu⟩
        rw [bytes_form x big Hx.out]
        replace hF := hF.stay hbu
        replace hbc := hbc.trans (hbu.mono hbc.size)
        clear hbu hrd
        refine hK _ _ ?_
        clear hK K
        refine wpAny_take (i := 6) (v := .tuple #[.string ⟨(formL16 big x.toNat).toArray⟩, .agg #[.int .i64 0, .int .i64 0]]) rfl (by kernel_rfl) (by kernel_rfl) (by kernel_rfl) (fun _ _ _ h => h) (Or.inl ⟨by rfl, by intro w; go_simp⟩) ?_
        refine wpAny_take (i := 7) (v := .string ⟨(formL16 big x.toNat).toArray⟩) rfl (by kernel_rfl) (by kernel_rfl) (by kernel_rfl) (fun _ _ _ h => h) (Or.inl ⟨by rfl, by intro w; go_simp⟩) ?_
        refine wpAny_take (i := 8) (v := .agg #[.int .i64 0, .int .i64 0]) rfl (by kernel_rfl) (by kernel_rfl) (by kernel_rfl) (fun _ _ _ h => h) (Or.inl ⟨by rfl, by intro w; go_simp⟩) ?_
        refine wpAny_take (i := 10) (v := .string ⟨(formL16 big x.toNat).toArray⟩) rfl (by kernel_rfl) (by kernel_rfl) (by kernel_rfl) (fun _ _ _ h => h) (Or.inl ⟨by rfl, by intro w; go_simp⟩) ?_
        have z0 := hF.cell 0
        have z1 := hF.cell 1
        have f0 := hF.frozen 0
        have f1 := hF.frozen 1
        refine wpAny_ready (rs := [11]) (by kernel_rfl) (by simp) ?_
        refine AllReady.cons rfl (fun K hK => ?_) AllReady.nil
        go_simp
        refine hK _ _ ?_
        clear hK K
        refine wpAny_done (by kernel_rfl) ?_ _
        have bF := (hbc.setCell (p := ⟨w0.heap.size, 0, none⟩) hgg (.int .i64 0)).setCell (p := ⟨w0.heap.size, 1, none⟩) hgg (.int .i64 0)
        obtain ⟨wz, hwz⟩ : ∃ wz, wz = (World.setCell (World.setCell wb18 ⟨w0.heap.size, 0, none⟩ (.int .i64 0)) ⟨w0.heap.size, 1, none⟩ (.int .i64 0)) := ⟨_, rfl⟩
        rw [← hwz] at bF ⊢
        clear hwz z0 z1 f0 f1
        go_wp2
        exact bodyPost_ret (v := .tuple #[.string ⟨(formL16 big x.toNat).toArray⟩, .bool true]) (by simp [results, Tryd.results29, go_sem]) rfl ⟨by rw [He.out]; rfl, hB.out.trans (bF.mono hB.out.size)⟩
      · skip
        refine AllReady.cons rfl (fun K hK => ?_) AllReady.nil
        have hcl := (K0.out _ hbc)
        go_simp
        clear hcl
        refine hK _ _ ?_
        clear hK K
        refine wpAny_take (i := 4) (v := .bool big) rfl (by kernel_rfl) (by kernel_rfl) (by kernel_rfl) (fun _ _ _ h => h) (Or.inl ⟨by rfl, by intro w; first | go_simp | (simp only [Hq.out]; go_simp)⟩) ?_
        refine wpAny_ready (rs := [1]) (by kernel_rfl) (by simp) ?_
        refine AllReady.cons rfl (fun K hK => ?_) AllReady.nil
        go_simp
        refine (rform_any x _ Hx.out).mono ?_
        rintro e wa19 ⟨v, rfl, hov, hbu⟩
        obtain ⟨Av, cv, rfl, _, hrd⟩ := val_of_own hov
        replace hF := hF.stay hbu
        replace hbc := hbc.trans (hbu.mono hbc.size)
        clear hov hbu
        refine hK _ _ ?_
        clear hK K
        refine wpAny_ready (rs := [5]) (by kernel_rfl) (by simp) ?_
        refine AllReady.cons rfl (fun K hK => ?_) AllReady.nil
        go_simp
        refine (rbytes_any _ cv Av (form16 x) big false _ hrd (form16_le x)).mono ?_
        rintro e wb20 ⟨rfl, hbu⟩
        rw [bytes_form x big Hx.out]
        replace hF := hF.stay hbu
        replace hbc := hbc.trans (hbu.mono hbc.size)
        clear hbu hrd
        refine hK _ _ ?_
        clear hK K
        refine wpAny_take (i := 6) (v := .tuple #[.string ⟨(formL16 big x.toNat).toArray⟩, .agg #[.int .i64 0, .int .i64 0]]) rfl (by kernel_rfl) (by kernel_rfl) (by kernel_rfl) (fun _ _ _ h => h) (Or.inl ⟨by rfl, by intro w; go_simp⟩) ?_
        refine wpAny_take (i := 7) (v := .string ⟨(formL16 big x.toNat).toArray⟩) rfl (by kernel_rfl) (by kernel_rfl) (by kernel_rfl) (fun _ _ _ h => h) (Or.inl ⟨by rfl, by intro w; go_simp⟩) ?_
        refine wpAny_take (i := 8) (v := .agg #[.int .i64 0, .int .i64 0]) rfl (by kernel_rfl) (by kernel_rfl) (by kernel_rfl) (fun _ _ _ h => h) (Or.inl ⟨by rfl, by intro w; go_simp⟩) ?_
        refine wpAny_take (i := 10) (v := .string ⟨(formL16 big x.toNat).toArray⟩) rfl (by kernel_rfl) (by kernel_rfl) (by kernel_rfl) (fun _ _ _ h => h) (Or.inl ⟨by rfl, by intro w; go_simp⟩) ?_
        have z0 := hF.cell 0
        have z1 := hF.cell 1
        have f0 := hF.frozen 0
        have f1 := hF.frozen 1
        refine wpAny_ready (rs := [11]) (by kernel_rfl) (by simp) ?_
        refine AllReady.cons rfl (fun K hK => ?_) AllReady.nil
        go_simp
        refine hK _ _ ?_
        clear hK K
        refine wpAny_done (by kernel_rfl) ?_ _
        have bF := (hbc.setCell (p := ⟨w0.heap.size, 0, none⟩) hgg (.int .i64 0)).setCell (p := ⟨w0.heap.size, 1, none⟩) hgg (.int .i64 0)
        obtain ⟨wz, hwz⟩ : ∃ wz, wz = (World.setCell (World.setCell wb20 ⟨w0.heap.size, 0, none⟩ (.int .i64 0)) ⟨w0.heap.size, 1, none⟩ (.int .i64 0)) := ⟨_, rfl⟩
        rw [← hwz] at bF ⊢
        clear hwz z0 z1 f0 f1
        go_wp2
        exact bodyPost_ret (v := .tuple #[.string ⟨(formL16 big x.toNat).toArray⟩, .bool true]) (by simp [results, Tryd.results29, go_sem]) rfl ⟨by rw [He.out]; rfl, hB.out.trans (bF.mono hB.out.size)⟩

theorem rput_any (kind : Int) (A : Option Addr) (n c : Nat) (codes : List Int) (e x : Int) (w : World) (h : Reads w w.heap.size 1 A n (codes.map iv)) (hC : CkE kind codes e) :
    Calls Tryd.prog 29 #[.agg #[.int .i64 kind, .slice A n c], .int .i64 x] w fun r w' => r = .returned (formV (puR e (cdOf kind codes) x)) ∧ Below w.heap.size w w' := by
  unfold puR
  by_cases he : e = 0
  · subst he
    rw [if_pos rfl]
    cases hx : scalB x with
    | false => rw [formK_no hC hx]; exact rput_none kind A n c codes 0 x w h hC (Or.inr hx)
    | true =>
      rcases id hC with ⟨hk | hk | hk, _⟩ | ⟨hk, _⟩ | ⟨_, h0⟩
      · subst hk; exact rput_u8 A n c codes x w h hC hx
      · exact rput_u16 kind true A n c codes x w h (Or.inl ⟨hk, rfl⟩) hx
      · exact rput_u16 kind false A n c codes x w h (Or.inr ⟨hk, rfl⟩) hx
      · subst hk; exact rput_one A n c codes x w h hC hx
      · exact absurd h0 (by decide)
  · rw [if_neg he]; exact rput_none kind A n c codes e x w h hC (Or.inl he)
end Go.Proofs.YtbcbmmgfdobdiaaDoor
