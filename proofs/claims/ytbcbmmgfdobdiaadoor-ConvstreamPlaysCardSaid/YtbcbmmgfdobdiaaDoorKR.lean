/- The walk of ConvertReturns. -/
import Derived.Test.YtbcbmmgfdobdiaaDoorK9
namespace Go.Proofs.YtbcbmmgfdobdiaaDoor
open Go.RowKit

theorem strictK_len (K L : Cd) : ∀ (f i : Nat) (s t : List UInt8), s.length ≤ f → strictK K L f i s = .ok t → t.length ≤ 4 * s.length := by
  intro f
  induction f with
  | zero => intro i s t hs h; obtain rfl : s = [] := List.eq_nil_of_length_eq_zero (by omega); rw [strictK_nil] at h; cases h; simp
  | succ f ih =>
    intro i s t hs h
    by_cases h0 : s = []
    · subst h0; rw [strictK_nil] at h; cases h; simp
    obtain ⟨⟨c, n, b⟩, hr⟩ : ∃ r, stepK K s = r := ⟨_, rfl⟩
    have hbd := stepK_bd K s h0
    rw [hr] at hbd
    cases b with
    | false => rw [strictK_ill h0 hr] at h; cases h
    | true =>
      cases hx : formK L (c : Int) with
      | none => rw [strictK_un h0 hr hx] at h; cases h
      | some x =>
        rw [strictK_ok h0 hr hx] at h
        have hxl := (formK_ne hx).2
        cases hq : strictK K L f (i + n) (s.drop n) with
        | error e => rw [hq] at h; cases h
        | ok o =>
          rw [hq] at h
          obtain rfl : x ++ o = t := by simpa [preS] using h
          have hl : (s.drop n).length = s.length - n := by simp
          simp only at hbd
          have := ih (i + n) (s.drop n) o (by omega) hq
          simp; omega
/-- what Convert with Fail returns -/
def conR (e1 e2 : Int) (K L : Cd) (s : List UInt8) : Except (Int × Nat) (List UInt8) := if e1 = 0 ∧ e2 = 0 then strictR K L s else .error (11, 0)
theorem conv_any (k1 : Int) (A1 : Option Addr) (n1 c1 : Nat) (q1 : List Int) (k2 : Int) (A2 : Option Addr) (n2 c2 : Nat) (q2 : List Int) (e1 e2 : Int) (s : List UInt8) (w : World) (h1 : Reads w w.heap.size 1 A1 n1 (q1.map iv)) (h2 : Reads w w.heap.size 1 A2 n2 (q2.map iv)) (hC1 : CkE k1 q1 e1) (hC2 : CkE k2 q2 e2) (hs : s.length ≤ 1000000) (hdg : Dig w) :
    Calls Tryd.prog 24 #[.agg #[.int .i64 k1, .slice A1 n1 c1], .agg #[.int .i64 k2, .slice A2 n2 c2], .string ⟨s.toArray⟩, .int .i64 1] w fun x w' => x = .returned (outT (conR e1 e2 (cdOf k1 q1) (cdOf k2 q2) s)) ∧ Below w.heap.size w w' := by
  unfold conR
  by_cases h : e1 = 0 ∧ e2 = 0
  · rw [if_pos h]
    obtain ⟨rfl, rfl⟩ := h
    exact convF_good k1 A1 n1 c1 q1 k2 A2 n2 c2 q2 s w h1 h2 hC1 hC2 hs hdg
  · rw [if_neg h]
    exact conv_bad k1 A1 n1 c1 q1 k2 A2 n2 c2 q2 e1 e2 1 s w h1 h2 hC1 hC2 (by omega)
theorem conR_back {k1 k2 : Int} {q1 q2 : List Int} {e1 e2 : Int} {s t : List UInt8} (hC1 : CkE k1 q1 e1) (hC2 : CkE k2 q2 e2) (h : conR e1 e2 (cdOf k1 q1) (cdOf k2 q2) s = .ok t) : conR e2 e1 (cdOf k2 q2) (cdOf k1 q1) t = .ok s ∧ t.length ≤ 4 * s.length := by
  unfold conR at h ⊢
  by_cases he : e1 = 0 ∧ e2 = 0
  · rw [if_pos he] at h
    rw [if_pos ⟨he.2, he.1⟩]
    obtain ⟨rfl, rfl⟩ := he
    exact ⟨strictK_back _ _ (good_cd hC1) (good_cd hC2) s.length 0 s t (Nat.le_refl _) h t.length 0 (Nat.le_refl _), strictK_len _ _ s.length 0 s t (Nat.le_refl _) h⟩
  · rw [if_neg he] at h; cases h
theorem conR_err {k1 k2 : Int} {q1 q2 : List Int} {e1 e2 : Int} {s : List UInt8} {e : Int} {i : Nat} (h : conR e1 e2 (cdOf k1 q1) (cdOf k2 q2) s = .error (e, i)) : e ≠ 0 := by
  have hk : ∀ (K L : Cd) (f i : Nat) (s : List UInt8) (e : Int) (j : Nat), strictK K L f i s = .error (e, j) → s.length ≤ f → e ≠ 0 := by
    intro K L f
    induction f with
    | zero => intro i s e j h hs; obtain rfl : s = [] := List.eq_nil_of_length_eq_zero (by omega); rw [strictK_nil] at h; cases h
    | succ f ih =>
      intro i s e j h hs
      by_cases h0 : s = []
      · subst h0; rw [strictK_nil] at h; cases h
      obtain ⟨⟨c, n, b⟩, hr⟩ : ∃ r, stepK K s = r := ⟨_, rfl⟩
      have hbd := stepK_bd K s h0
      rw [hr] at hbd
      cases b with
      | false => rw [strictK_ill h0 hr] at h; cases h; decide
      | true =>
        cases hx : formK L (c : Int) with
        | none => rw [strictK_un h0 hr hx] at h; cases h; decide
        | some x =>
          rw [strictK_ok h0 hr hx] at h
          simp only at hbd
          cases hq : strictK K L f (i + n) (s.drop n) with
          | error e' =>
            rw [hq] at h
            obtain ⟨e1, j1⟩ := e'
            simp [preS] at h
            obtain ⟨rfl, rfl⟩ := h
            exact ih _ _ _ _ hq (by simp; omega)
          | ok o => rw [hq] at h; cases h
  unfold conR at h
  split at h
  · exact hk _ _ _ _ _ _ _ h (Nat.le_refl _)
  · cases h; decide

set_option maxRecDepth 100000 in
set_option maxHeartbeats 4000000 in
theorem wk_returns (k : Int) (A : Option Addr) (n c : Nat) (codes : List Int) (kind : Int) (s : List UInt8) (w : World) (hr : Reads w w.heap.size 1 A n (codes.map iv)) (hd : Dig w) :
    Calls Tryd.prog 5 #[.agg #[.int .i64 k, .slice A n c], .int .i64 kind, .string ⟨s.toArray⟩] w fun e w' => e = .returned (.bool true) ∧ Below w.heap.size w w' := by
  have HB := Lib.hid (Blk.new w 26 #[.int .i64 k, .slice A n c])
  have hL := below_new w (.cells #[.int .i64 k, .slice A n c] 26)
  have HL := Lib.hid hL
  have HR := Lib.hid (hr.stay hL)
  have HD := Lib.hid (hd.below hL)
  have g0 := HB.out.cell 0
  have g1 := HB.out.cell 1
  clear hL hr hd
  go_enter Tryd.func5, Tryd.ntmps5
  go_wp2_with fail
  clear g0 g1
  obtain ⟨W, hW⟩ : ∃ W, W = w.alloc (.cells #[.int .i64 k, .slice A n c] 26) := ⟨_, rfl⟩
  rw [← hW] at HB HL HR HD ⊢
  clear hW
  refine (few_any k A n c W).mono ?_
  rintro x w1 ⟨rfl, hb1⟩
  have HB1 := Lib.hid (HB.out.stay hb1)
  have HL1 := Lib.hid (HL.out.trans (hb1.mono HL.out.size))
  have HR1 := Lib.hid (HR.out.stay hb1)
  have HD1 := Lib.hid (HD.out.below hb1)
  clear HB HL HR HD hb1
  obtain ⟨e1, hC1⟩ := CkE_some k codes
  have HC1 := Lib.hid hC1
  clear hC1
  have hcase : (¬ (n : Int) ≤ 300) ∨ ((n : Int) ≤ 300 ∧ (300 : Int) < s.length) ∨ ((n : Int) ≤ 300 ∧ ¬ (300 : Int) < s.length ∧ kind < 1) ∨ ((n : Int) ≤ 300 ∧ ¬ (300 : Int) < s.length ∧ ¬ kind < 1 ∧ 3 < kind) ∨ ((n : Int) ≤ 300 ∧ ¬ (300 : Int) < s.length ∧ ¬ kind < 1 ∧ ¬ 3 < kind) := by omega
  rcases hcase with h1 | ⟨h1, h2⟩ | ⟨h1, h2, h3⟩ | ⟨h1, h2, h3, h4⟩ | ⟨hn, hsl, hk1, hk3⟩
  iterate 4
    · go_wp2_with fail
      refine (awake7 _ HD1.out).mono ?_
      rintro x w2 ⟨rfl, hb2⟩
      go_wp2
      go_ret
      exact ⟨rfl, HL1.out.trans (hb2.mono HL1.out.size)⟩
  have hC2 : CkE kind [] 0 := Or.inl ⟨by omega, rfl⟩
  have HC2 := Lib.hid hC2
  clear hC2
  have hs6 : s.length ≤ 1000000 := by omega
  have HS := Lib.hid hs6
  clear hs6
  have bn := below_new w1 (.cells #[.int .i64 kind, .slice none 0 0] 26)
  have P1 := Lib.hid (HB1.out.stay bn)
  have P2 := Lib.hid (Blk.new w1 26 #[.int .i64 kind, .slice none 0 0])
  have R2 := Lib.hid (HR1.out.stay bn)
  have D2 := Lib.hid (HD1.out.below bn)
  have L2 := Lib.hid (HL1.out.trans (bn.mono HL1.out.size))
  clear bn HB1 HR1 HD1 HL1
  have g0 := P1.out.cell 0
  have g1 := P1.out.cell 1
  have g2 := P2.out.cell 0
  have g3 := P2.out.cell 1
  go_wp2_with fail
  clear g0 g1 g2 g3
  obtain ⟨W2, hW⟩ : ∃ W, W = w1.alloc (.cells #[.int .i64 kind, .slice none 0 0] 26) := ⟨_, rfl⟩
  rw [← hW] at P1 P2 R2 D2 L2 ⊢
  clear hW
  refine (conv_any k A n c codes kind none 0 0 [] e1 0 s W2 R2.out Reads.none_ HC1.out HC2.out HS.out D2.out).mono ?_
  rintro x w3 ⟨rfl, hb3⟩
  have Q1 := Lib.hid (P1.out.stay hb3)
  have Q2 := Lib.hid (P2.out.stay hb3)
  have R3 := Lib.hid (R2.out.stay hb3)
  have D3 := Lib.hid (D2.out.below hb3)
  have L3 := Lib.hid (L2.out.trans (hb3.mono L2.out.size))
  clear hb3 P1 P2 R2 D2 L2
  cases hr : conR e1 0 (cdOf k codes) (cdOf kind []) s with
  | error p =>
    obtain ⟨e, i⟩ := p
    have he : (e != 0) = true := bne_iff_ne.2 (conR_err hr)
    clear hr
    unfold outT
    simp only
    have bn := below_new w3 (.cells #[.int .i64 e, .int .i64 (i : Int)] 37)
    have F := Lib.hid (Blk.new w3 37 #[.int .i64 e, .int .i64 (i : Int)])
    have D4 := Lib.hid (D3.out.below bn)
    have L4 := Lib.hid (L3.out.trans (bn.mono L3.out.size))
    clear bn
    have g0 := F.out.cell 0
    have g1 := F.out.cell 1
    go_wp2_with fail
    refine (awake7 _ D4.out).mono ?_
    rintro x w4 ⟨rfl, hb4⟩
    clear g0 g1
    go_wp2
    go_ret
    exact ⟨rfl, L4.out.trans (hb4.mono L4.out.size)⟩
  | ok t =>
    obtain ⟨hback, htl⟩ := conR_back HC1.out HC2.out hr
    clear hr
    have HT := Lib.hid (show t.length ≤ 1000000 by have := HS.out; omega)
    have HK := Lib.hid hback
    clear hback htl
    unfold outT
    simp only
    have bn := below_new w3 (.cells #[.int .i64 0, .int .i64 0] 37)
    have F := Lib.hid (Blk.new w3 37 #[.int .i64 0, .int .i64 0])
    have D4 := Lib.hid (D3.out.below bn)
    have L4 := Lib.hid (L3.out.trans (bn.mono L3.out.size))
    have P1 := Lib.hid (Q1.out.stay bn)
    have P2 := Lib.hid (Q2.out.stay bn)
    have R4 := Lib.hid (R3.out.stay bn)
    clear bn Q1 Q2 R3 D3 L3
    have g0 := F.out.cell 0
    have g1 := F.out.cell 1
    have g2 := P1.out.cell 0
    have g3 := P1.out.cell 1
    have g4 := P2.out.cell 0
    have g5 := P2.out.cell 1
    go_wp2_with fail
    clear g0 g1 g2 g3 g4 g5
    obtain ⟨W4, hW⟩ : ∃ W, W = w3.alloc (.cells #[.int .i64 0, .int .i64 0] 37) := ⟨_, rfl⟩
    rw [← hW] at P1 P2 R4 D4 L4 F ⊢
    clear hW
    refine (conv_any kind none 0 0 [] k A n c codes 0 e1 t W4 Reads.none_ R4.out HC2.out HC1.out HT.out D4.out).mono ?_
    rintro x w5 ⟨rfl, hb5⟩
    rw [HK.out]
    unfold outT
    simp only
    have L5 := Lib.hid (L4.out.trans (hb5.mono L4.out.size))
    have D5 := D4.out.below hb5
    have bn := below_new w5 (.cells #[.int .i64 0, .int .i64 0] 37)
    have F2 := Lib.hid (Blk.new w5 37 #[.int .i64 0, .int .i64 0])
    have D6 := Lib.hid (D5.below bn)
    have L6 := Lib.hid (L5.out.trans (bn.mono L5.out.size))
    clear bn D5 hb5 F P1 P2 R4 D4 L4
    have g0 := F2.out.cell 0
    have g1 := F2.out.cell 1
    go_wp2_with fail
    refine (awake7 _ D6.out).mono ?_
    rintro x w6 ⟨rfl, hb6⟩
    clear g0 g1
    go_wp2
    go_ret
    exact ⟨rfl, L6.out.trans (hb6.mono L6.out.size)⟩
end Go.Proofs.YtbcbmmgfdobdiaaDoor
