/- convert.Guess, few and awake of the statements about layer 7. -/
import Derived.Test.YtbcbmmgfdobdiaaDoorK8
namespace Go.Proofs.YtbcbmmgfdobdiaaDoor
open Go.RowKit

def pfx (p s : List UInt8) : Bool := s.take p.length == p
def guessR (s : List UInt8) : Int × Int := if pfx [239, 187, 191] s = true then (1, 3) else if pfx [254, 255] s = true then (2, 2) else if pfx [255, 254] s = true then (3, 2) else (0, 0)

set_option maxRecDepth 100000 in
set_option maxHeartbeats 2000000 in
theorem haslite (s p : List UInt8) (w : World) (_hs : s.length ≤ 1000000) (_hp : p.length ≤ 1000) :
    Calls Tryd.prog 81 #[.string ⟨s.toArray⟩, .string ⟨p.toArray⟩] w fun e w' => e = .returned (.bool (pfx p s)) ∧ w' = w := by
  by_cases hl : p.length ≤ s.length
  · have hl' : ((p.length : Nat) : Int) ≤ (s.length : Int) := by omega
    have h1 : (⟨s.toArray⟩ : ByteArray).extract 0 p.length = ⟨(s.take p.length).toArray⟩ := by apply ByteArray.ext; simp
    go_enter Tryd.func81, Tryd.ntmps81
    go_wp2
    go_ret
    exact ⟨rfl, rfl⟩
  · have hl' : ¬ ((p.length : Nat) : Int) ≤ (s.length : Int) := by omega
    have he : pfx p s = false := by
      apply Bool.eq_false_iff.2
      intro h
      have h := congrArg List.length (eq_of_beq h)
      simp at h; omega
    rw [he]
    go_enter Tryd.func81, Tryd.ntmps81
    go_wp2
    go_ret
    exact ⟨rfl, rfl⟩

set_option maxRecDepth 100000 in
set_option maxHeartbeats 2000000 in
theorem hasprefix (s p : List UInt8) (w : World) (hs : s.length ≤ 1000000) (hp : p.length ≤ 1000) :
    Calls Tryd.prog 56 #[.string ⟨s.toArray⟩, .string ⟨p.toArray⟩] w fun e w' => e = .returned (.bool (pfx p s)) ∧ w' = w := by
  go_enter Tryd.func56, Tryd.ntmps56
  go_wp2_with fail
  refine (haslite s p w hs hp).mono ?_
  rintro e w' ⟨rfl, rfl⟩
  go_wp2
  go_ret
  exact ⟨rfl, rfl⟩

set_option maxRecDepth 100000 in
set_option maxHeartbeats 2000000 in
theorem guess_any (s : List UInt8) (w : World) (hs : s.length ≤ 1000000) :
    Calls Tryd.prog 30 #[.string ⟨s.toArray⟩] w fun e w' => e = .returned (.tuple #[.int .i64 (guessR s).1, .int .i64 (guessR s).2]) ∧ w' = w := by
  go_enter Tryd.func30, Tryd.ntmps30
  go_wp2_with fail
  refine (hasprefix s [239, 187, 191] w hs (by simp)).mono ?_
  rintro e w1 ⟨rfl, rfl⟩
  cases h1 : pfx [239, 187, 191] s with
  | true =>
    go_wp2_with fail
    exact bodyPost_ret (v := .tuple #[.int .i64 1, .int .i64 3]) (by simp [results, Tryd.results30, go_sem]) rfl ⟨by simp [guessR, h1], rfl⟩
  | false =>
    have H1 := Lib.hid h1
    clear h1
    go_wp2_with fail
    refine (hasprefix s [254, 255] w1 hs (by simp)).mono ?_
    rintro e w2 ⟨rfl, rfl⟩
    cases h2 : pfx [254, 255] s with
    | true =>
      go_wp2_with fail
      exact bodyPost_ret (v := .tuple #[.int .i64 2, .int .i64 2]) (by simp [results, Tryd.results30, go_sem]) rfl ⟨by simp [guessR, H1.out, h2], rfl⟩
    | false =>
      have H2 := Lib.hid h2
      clear h2
      go_wp2_with fail
      refine (hasprefix s [255, 254] w2 hs (by simp)).mono ?_
      rintro e w3 ⟨rfl, rfl⟩
      cases h3 : pfx [255, 254] s with
      | true =>
        go_wp2_with fail
        exact bodyPost_ret (v := .tuple #[.int .i64 3, .int .i64 2]) (by simp [results, Tryd.results30, go_sem]) rfl ⟨by simp [guessR, H1.out, H2.out, h3], rfl⟩
      | false =>
        go_wp2_with fail
        exact bodyPost_ret (v := .tuple #[.int .i64 0, .int .i64 0]) (by simp [results, Tryd.results30, go_sem]) rfl ⟨by simp [guessR, H1.out, H2.out, h3], rfl⟩

set_option maxRecDepth 100000 in
set_option maxHeartbeats 2000000 in
theorem few_any (k : Int) (A : Option Addr) (n c : Nat) (w : World) :
    Calls Tryd.prog 22 #[.agg #[.int .i64 k, .slice A n c]] w fun e w' => e = .returned (.bool (decide ((n : Int) ≤ 300))) ∧ Below w.heap.size w w' := by
  have HB := Lib.hid (Blk.new w 26 #[.int .i64 k, .slice A n c])
  have hL := below_new w (.cells #[.int .i64 k, .slice A n c] 26)
  have g0 := HB.out.cell 0
  have g1 := HB.out.cell 1
  go_enter Tryd.func22, Tryd.ntmps22
  go_wp2
  go_ret
  exact ⟨rfl, hL⟩

theorem ex71 : stepK (cdOf 2 []) [65] = (0, 1, false) := by decide +kernel
theorem ex72 : strictR (cdOf 1 []) (cdOf 3 []) [240, 159, 152, 128, 65] = .ok [61, 216, 0, 222, 65, 0] := by kernel_rfl
theorem ex73 : guessR [239, 187, 191, 65] = (1, 3) := by decide +kernel

set_option maxRecDepth 100000 in
set_option maxHeartbeats 2000000 in
theorem awake7 (w : World) (hd : Dig w) : Calls Tryd.prog 23 #[] w fun e w' => e = .returned (.bool true) ∧ Below w.heap.size w w' := by
  have Hd := Lib.hid hd
  clear hd
  go_enter Tryd.func23, Tryd.ntmps23
  go_wp2_with fail
  refine (cstep_good 2 none 0 0 [] [65] w Reads.none_ (Or.inl ⟨by decide, rfl⟩) (by simp) Hd.out).mono ?_
  rintro e w1 ⟨rfl, hb1⟩
  rw [ex71]
  simp only [trip64]
  have Hd1 := Lib.hid (Hd.out.below hb1)
  have B1 := Lib.hid hb1
  clear hb1
  go_wp2_with fail
  refine (convF_good 1 none 0 0 [] 3 none 0 0 [] [240, 159, 152, 128, 65] w1 Reads.none_ Reads.none_ (Or.inl ⟨by decide, rfl⟩) (Or.inl ⟨by decide, rfl⟩) (by simp) Hd1.out).mono ?_
  rintro e w2 ⟨rfl, hb2⟩
  rw [ex72]
  unfold outT
  simp only
  have B2 := Lib.hid (B1.out.trans (hb2.mono B1.out.size))
  clear hb2
  have F := Lib.hid (Blk.new w2 37 #[.int .i64 0, .int .i64 0])
  have bn := Lib.hid (below_new w2 (.cells #[.int .i64 0, .int .i64 0] 37))
  go_wp2_with fail
  obtain ⟨W1, hW1⟩ : ∃ W, W = w2.alloc (.cells #[.int .i64 0, .int .i64 0] 37) := ⟨_, rfl⟩
  rw [← hW1] at F bn ⊢
  clear hW1
  refine (guess_any [239, 187, 191, 65] W1 (by simp)).mono ?_
  rintro e w3 ⟨rfl, rfl⟩
  rw [ex73]
  simp only
  have g0 := F.out.cell 0
  have g1 := F.out.cell 1
  go_wp2_with fail
  refine (checkE_any 0 none 0 0 [] 8 w3 Reads.none_ (Or.inr (Or.inr ⟨by decide, rfl⟩))).mono ?_
  rintro e w4 ⟨rfl, hb4⟩
  have b3 := B2.out.trans (bn.out.mono B2.out.size)
  go_wp2
  go_ret
  exact ⟨rfl, b3.trans (hb4.mono b3.size)⟩
end Go.Proofs.YtbcbmmgfdobdiaaDoor
