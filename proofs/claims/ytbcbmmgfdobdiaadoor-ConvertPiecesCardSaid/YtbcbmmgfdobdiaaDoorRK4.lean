/- The reference's Step (layer 7). -/
import Derived.Test.YtbcbmmgfdobdiaaDoorRK3
import Derived.Test.YtbcbmmgfdobdiaaDoorKF
namespace Go.Proofs.YtbcbmmgfdobdiaaDoor
open Go.RowKit

theorem stepK_nil (K : Cd) : stepK K [] = (0, 0, false) := by
  cases K <;> rfl

set_option maxRecDepth 100000 in
set_option maxHeartbeats 2000000 in
theorem rstep_none (kind : Int) (A : Option Addr) (n c : Nat) (codes : List Int) (e : Int) (s : List UInt8) (w : World) (h : Reads w w.heap.size 1 A n (codes.map iv)) (hC : CkE kind codes e) (hz : e ≠ 0 ∨ s = []) :
    Calls Tryd.prog 26 #[.agg #[.int .i64 kind, .slice A n c], .string ⟨s.toArray⟩] w fun x w' => x = .returned (trip64 (0, 0, false)) ∧ Below w.heap.size w w' := by
  have HB := Lib.hid (Blk.new w 26 #[.int .i64 kind, .slice A n c])
  have hL := below_new w (.cells #[.int .i64 kind, .slice A n c] 26)
  have HL := Lib.hid hL
  have HR := Lib.hid (h.stay hL)
  have HC := Lib.hid hC
  have g0 := HB.out.cell 0
  have g1 := HB.out.cell 1
  clear hL h hC
  go_enter Tryd.func26, Tryd.ntmps26
  go_wp2_with fail
  refine (rcheck_any kind A n c codes e _ HR.out HC.out).mono ?_
  rintro x w1 ⟨rfl, hb1⟩
  clear g0 g1
  have hB := Lib.hid (HL.out.trans (hb1.mono HL.out.size))
  by_cases he : e = 0
  · subst he
    obtain rfl : s = [] := hz.elim (fun h => absurd rfl h) id
    go_wp2
    exact bodyPost_ret (v := .tuple #[.int .i64 0, .int .i64 0, .bool false]) (by simp [results, Tryd.results26, go_sem]) rfl ⟨rfl, hB.out⟩
  · have hne : (e != 0) = true := bne_iff_ne.2 he
    clear hz he
    go_wp2
    exact bodyPost_ret (v := .tuple #[.int .i64 0, .int .i64 0, .bool false]) (by simp [results, Tryd.results26, go_sem]) rfl ⟨rfl, hB.out⟩

set_option maxRecDepth 100000 in
set_option maxHeartbeats 2000000 in
theorem rstep_some (kind : Int) (A : Option Addr) (n c : Nat) (codes : List Int) (a : UInt8) (t : List UInt8) (w : World) (h : Reads w w.heap.size 1 A n (codes.map iv)) (hC : CkE kind codes 0) (hs : (a :: t).length ≤ 1000000) :
    Calls Tryd.prog 26 #[.agg #[.int .i64 kind, .slice A n c], .string ⟨(a :: t).toArray⟩] w fun x w' => x = .returned (trip64 (stepK (cdOf kind codes) (a :: t))) ∧ Below w.heap.size w w' := by
  have HB := Lib.hid (Blk.new w 26 #[.int .i64 kind, .slice A n c])
  have hL := below_new w (.cells #[.int .i64 kind, .slice A n c] 26)
  have HL := Lib.hid hL
  have HR := Lib.hid (h.stay hL)
  have HC := Lib.hid hC
  have g0 := HB.out.cell 0
  have g1 := HB.out.cell 1
  have hl : codes.length = n := by have := h.1; simpa using this
  have Hl := Lib.hid hl
  obtain ⟨s, hS⟩ : ∃ s, s = a :: t := ⟨_, rfl⟩
  have hq0 : (s == ([] : List UInt8)) = false := by rw [hS]; rfl
  have hq1 : s.isEmpty = false := by rw [hS]; rfl
  have hq2 : ¬ s = [] := by rw [hS]; simp
  have hpos : (0 : Int) < (s.length : Int) := by rw [hS]; simp
  have ha : s[0]? = some a := by rw [hS]; rfl
  rw [← hS] at hs ⊢
  have Ha := Lib.hid ha
  have HS := Lib.hid hS
  clear hL h hl ha hS
  go_enter Tryd.func26, Tryd.ntmps26
  go_wp2_with fail
  clear hq0 hq1 hq2
  refine (rcheck_any kind A n c codes 0 _ HR.out HC.out).mono ?_
  rintro x w1 ⟨rfl, hb1⟩
  clear g0 g1
  have hq0 : (s == ([] : List UInt8)) = false := by rw [HS.out]; rfl
  have hq2 : ¬ s = [] := by rw [HS.out]; simp
  have g0 := (HB.out.stay hb1).cell 0
  have g1 := (HB.out.stay hb1).cell 1
  have HR1 := Lib.hid (HR.out.stay hb1)
  have hB := Lib.hid (HL.out.trans (hb1.mono HL.out.size))
  clear hb1
  rcases HC.out with ⟨hk | hk | hk, _⟩ | ⟨hk, hCc⟩ | ⟨_, h0⟩
  · subst hk
    obtain ⟨⟨z, m, b⟩, hr⟩ : ∃ r, step8 s = r := ⟨_, rfl⟩
    have Hr := Lib.hid hr
    have Hk : Hid (stepK (cdOf 1 codes) s = (z, m, b)) := Lib.hid hr
    clear hr
    go_wp2_with fail
    refine (rstep8H s z m b _ hs Hr.out).mono ?_
    rintro x w2 ⟨rfl, rfl⟩
    go_wp2
    exact bodyPost_ret (v := .tuple #[.int .i64 (z : Int), .int .i64 (m : Int), .bool b]) (by simp [results, Tryd.results26, go_sem]) rfl ⟨by rw [Hk.out]; rfl, hB.out⟩
  · subst hk
    obtain ⟨⟨z, m, b⟩, hr⟩ : ∃ r, step16 true s = r := ⟨_, rfl⟩
    have Hr := Lib.hid hr
    have Hk : Hid (stepK (cdOf 2 codes) s = (z, m, b)) := Lib.hid hr
    clear hr
    go_wp2_with fail
    refine (wide_any s true _ hs).mono ?_
    rintro x w2 ⟨rfl, hb2⟩
    rw [Hr.out]
    simp only [trip64]
    go_wp2
    exact bodyPost_ret (v := .tuple #[.int .i64 (z : Int), .int .i64 (m : Int), .bool b]) (by simp [results, Tryd.results26, go_sem]) rfl ⟨by rw [Hk.out]; rfl, hB.out.trans (hb2.mono hB.out.size)⟩
  · subst hk
    obtain ⟨⟨z, m, b⟩, hr⟩ : ∃ r, step16 false s = r := ⟨_, rfl⟩
    have Hr := Lib.hid hr
    have Hk : Hid (stepK (cdOf 3 codes) s = (z, m, b)) := Lib.hid hr
    clear hr
    go_wp2_with fail
    refine (wide_any s false _ hs).mono ?_
    rintro x w2 ⟨rfl, hb2⟩
    rw [Hr.out]
    simp only [trip64]
    go_wp2
    exact bodyPost_ret (v := .tuple #[.int .i64 (z : Int), .int .i64 (m : Int), .bool b]) (by simp [results, Tryd.results26, go_sem]) rfl ⟨by rw [Hk.out]; rfl, hB.out.trans (hb2.mono hB.out.size)⟩
  · subst hk
    have hg := CkC_zero.1 hCc
    have hn : n = 256 := by have := hg.1; have := Hl.out; omega
    subst hn
    have h0 : 0 < s.length := by rw [HS.out]; simp
    obtain ⟨b, hb, hb2, hb256⟩ := byte8_at (s := s) (k := 0) h0
    have hbb : a.toNat = b := by
      have hb0 := Ha.out
      rw [List.getElem?_eq_getElem h0] at hb0; cases hb0; exact hb2
    obtain ⟨ad, u, rfl, _, hu, hcell⟩ := HR1.out.at_ (k := b) (by omega)
    obtain ⟨x, hx, rfl⟩ := iv_at hu
    have He := Lib.hid (stepOne_at Ha.out (by rw [hbb]; exact hx))
    have h0d : decide (0 < s.length) = true := by simp; omega
    have hbi : (b : Int) < 256 := by omega
    clear hu hx hCc hg hb2 hbb
    by_cases hx0 : x < 0
    · have Hx := Lib.hid (He.out.trans (if_pos hx0))
      go_wp2_with fail
      go_quiet (fail)
      go_wp2
      exact bodyPost_ret (v := .tuple #[.int .i64 0, .int .i64 1, .bool false]) (by simp [results, Tryd.results26, go_sem]) rfl ⟨by rw [show stepK (cdOf 4 codes) s = _ from Hx.out]; rfl, below_drewN hB.out _⟩
    · have Hx := Lib.hid (He.out.trans (if_neg hx0))
      have Hn := Lib.hid (show (x.toNat : Int) = x by omega)
      go_wp2_with fail
      go_quiet (fail)
      go_wp2
      exact bodyPost_ret (v := .tuple #[.int .i64 x, .int .i64 1, .bool true]) (by simp [results, Tryd.results26, go_sem]) rfl ⟨by rw [show stepK (cdOf 4 codes) s = _ from Hx.out, trip64]; simp only; rw [Hn.out]; rfl, below_drewN hB.out _⟩
  · exact absurd h0 (by decide)

theorem rstep_any (kind : Int) (A : Option Addr) (n c : Nat) (codes : List Int) (e : Int) (s : List UInt8) (w : World) (h : Reads w w.heap.size 1 A n (codes.map iv)) (hC : CkE kind codes e) (hs : s.length ≤ 1000000) :
    Calls Tryd.prog 26 #[.agg #[.int .i64 kind, .slice A n c], .string ⟨s.toArray⟩] w fun x w' => x = .returned (trip64 (stR e (cdOf kind codes) s)) ∧ Below w.heap.size w w' := by
  unfold stR
  by_cases he : e = 0
  · subst he
    rw [if_pos rfl]
    cases s with
    | nil => rw [stepK_nil]; exact rstep_none kind A n c codes 0 [] w h hC (Or.inr rfl)
    | cons a t => exact rstep_some kind A n c codes a t w h hC hs
  · rw [if_neg he]; exact rstep_none kind A n c codes e s w h hC (Or.inl he)
end Go.Proofs.YtbcbmmgfdobdiaaDoor
