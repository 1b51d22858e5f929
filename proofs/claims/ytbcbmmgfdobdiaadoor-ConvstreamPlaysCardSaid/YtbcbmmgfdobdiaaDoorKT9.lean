/- The walks of ConvstreamNew and ConvstreamNil. -/
import Derived.Test.YtbcbmmgfdobdiaaDoorKT
namespace Go.Proofs.YtbcbmmgfdobdiaaDoor
open Go.RowKit

set_option maxRecDepth 100000 in
set_option maxHeartbeats 4000000 in
theorem wk_new (k1 : Int) (A1 : Option Addr) (n1 c1 : Nat) (q1 : List Int) (k2 : Int) (A2 : Option Addr) (n2 c2 : Nat) (q2 : List Int) (p : Int) (w : World) (h1 : Reads w w.heap.size 1 A1 n1 (q1.map iv)) (h2 : Reads w w.heap.size 1 A2 n2 (q2.map iv)) (hd : Dig w) :
    Calls Tryd.prog 9 #[.agg #[.int .i64 k1, .slice A1 n1 c1, .int .i64 k2, .slice A2 n2 c2, .int .i64 p]] w fun e w' => e = .returned (.bool true) ∧ Below w.heap.size w w' := by
  have bn := below_new w (.cells #[.int .i64 k1, .slice A1 n1 c1, .int .i64 k2, .slice A2 n2 c2, .int .i64 p] 28)
  have HB := Lib.hid (Blk.new w 28 #[.int .i64 k1, .slice A1 n1 c1, .int .i64 k2, .slice A2 n2 c2, .int .i64 p])
  have H1 := Lib.hid (h1.stay bn)
  have H2 := Lib.hid (h2.stay bn)
  have HD := Lib.hid (hd.below bn)
  have HL := Lib.hid bn
  clear bn h1 h2 hd
  have g0 := HB.out.cell 0
  have g1 := HB.out.cell 1
  have g2 := HB.out.cell 2
  have g3 := HB.out.cell 3
  have g4 := HB.out.cell 4
  go_enter Tryd.func9, Tryd.ntmps9
  go_wp2_with fail
  clear g0 g1 g2 g3 g4
  obtain ⟨W, hW⟩ : ∃ W, W = (w.alloc (.cells #[.int .i64 k1, .slice A1 n1 c1, .int .i64 k2, .slice A2 n2 c2, .int .i64 p] 28)) := ⟨_, rfl⟩
  rw [← hW] at HB H1 H2 HD HL ⊢
  clear hW
  refine (few8_any k1 A1 n1 c1 k2 A2 n2 c2 p none 0 0 [] W Reads.none_ (by simp)).mono ?_
  rintro x w1 ⟨rfl, hb1⟩
  replace HB := Lib.hid (HB.out.stay hb1)
  replace H1 := Lib.hid (H1.out.stay hb1)
  replace H2 := Lib.hid (H2.out.stay hb1)
  replace HD := Lib.hid (HD.out.below hb1)
  replace HL := Lib.hid (HL.out.trans (hb1.mono HL.out.size))
  clear hb1
  cases few8 [] n1 n2 with
  | false =>
    go_wp2_with fail
    refine (alive_any _ HD.out).mono ?_
    rintro x w9 ⟨rfl, hb9⟩
    go_wp2
    go_ret
    exact ⟨rfl, HL.out.trans (hb9.mono HL.out.size)⟩
  | true =>
    have g0 := HB.out.cell 0
    have g1 := HB.out.cell 1
    have g2 := HB.out.cell 2
    have g3 := HB.out.cell 3
    have g4 := HB.out.cell 4
    go_wp2_with fail
    clear g0 g1 g2 g3 g4
    obtain ⟨e1, hC1⟩ := CkE_some k1 q1
    obtain ⟨e2, hC2⟩ := CkE_some k2 q2
    by_cases hgood : e1 = 0 ∧ e2 = 0 ∧ 1 ≤ p ∧ p ≤ 4
    · obtain ⟨rfl, rfl, hp1, hp4⟩ := hgood
      refine (start_good k1 A1 n1 c1 q1 k2 A2 n2 c2 q2 p w1 H1.out H2.out hC1 hC2 hp1 hp4 HD.out).mono ?_
      rintro x w2 ⟨g, b0, rfl, ⟨_, hS⟩, hb2⟩
      have HS := Lib.hid hS
      replace HD := Lib.hid (HD.out.below hb2)
      replace HL := Lib.hid (HL.out.trans (hb2.mono HL.out.size))
      clear hS hb2 hC1 hC2
      go_wp2_with fail
      refine (pending_law HS.out).mono ?_
      rintro x w3 ⟨⟨rest, done, rfl, hI, _⟩, rfl⟩
      have hr : rest = [] := by rw [hI.2.1]; simp
      subst hr
      clear hI
      go_wp2_with fail
      refine (alive_any _ HD.out).mono ?_
      rintro x w9 ⟨rfl, hb9⟩
      go_wp2
      go_ret
      exact ⟨rfl, HL.out.trans (hb9.mono HL.out.size)⟩
    · refine (start_bad k1 A1 n1 c1 q1 k2 A2 n2 c2 q2 p e1 e2 w1 H1.out H2.out hC1 hC2 hgood).mono ?_
      rintro x w2 ⟨rfl, hb2⟩
      replace HD := Lib.hid (HD.out.below hb2)
      replace HL := Lib.hid (HL.out.trans (hb2.mono HL.out.size))
      clear hb2 hC1 hC2 hgood
      go_wp2_with fail
      refine (alive_any _ HD.out).mono ?_
      rintro x w9 ⟨rfl, hb9⟩
      go_wp2
      go_ret
      exact ⟨rfl, HL.out.trans (hb9.mono HL.out.size)⟩

/-- the calls of a stream that is shut -/
def ShutAt (w : World) (v : Value) : Prop := ∀ u, Below w.heap.size w u → (∀ b : List UInt8, Calls Tryd.prog 19 #[v, .string ⟨b.toArray⟩] u fun e w' => e = .returned (.tuple #[.string ⟨([] : List UInt8).toArray⟩, .agg #[.int .i64 15, .int .i64 0]]) ∧ Below u.heap.size u w') ∧
  (Calls Tryd.prog 20 #[v] u fun e w' => e = .returned (.tuple #[.string ⟨([] : List UInt8).toArray⟩, .agg #[.int .i64 15, .int .i64 0]]) ∧ Below u.heap.size u w') ∧ (Calls Tryd.prog 21 #[v] u fun e w' => e = .returned (.string ⟨([] : List UInt8).toArray⟩) ∧ w' = u)
theorem shutAt_nil (w : World) : ShutAt w (.pointer none) := fun u _ => ⟨fun b => write_nil b u, close_nil u, pending_nil u⟩
theorem shutAt_of {w : World} {g : Nat} (h : StrC w g) : ShutAt w (.pointer (some ⟨g, 0, none⟩)) := fun u hu => ⟨fun b => write_shut g b u (h.stay hu).cell (h.stay hu).lt, close_shut g u (h.stay hu).cell (h.stay hu).lt, pending_closed g u (h.stay hu).cell⟩

set_option maxRecDepth 100000 in
set_option maxHeartbeats 4000000 in
theorem wk_nil (b : List UInt8) (w : World) (hd : Dig w) :
    Calls Tryd.prog 4 #[.string ⟨b.toArray⟩] w fun e w' => e = .returned (.bool true) ∧ Below w.heap.size w w' := by
  obtain ⟨W, hW⟩ : ∃ W, W = (w.alloc (.cells #[.string ⟨#[]⟩, .int .i64 0, .bool false, .int .i64 0, .slice none 0 0, .int .i64 0, .slice none 0 0, .int .i64 0] 47)).alloc (.cells #[.pointer none, .pointer (some ⟨w.heap.size, 0, none⟩)] 32) := ⟨_, rfl⟩
  have bn : Below w.heap.size w W := by rw [hW]; exact ((Below.refl _ _).alloc (Nat.le_refl _) _).alloc (by simp) _
  have hZ : StrC W w.heap.size := ⟨#[.string ⟨#[]⟩, .int .i64 0, .bool false, .int .i64 0, .slice none 0 0, .int .i64 0, .slice none 0 0, .int .i64 0], by rw [hW]; exact (Blk.new w _ _).alloc _, rfl⟩
  have hP : Blk W (w.heap.size + 1) 32 #[.pointer none, .pointer (some ⟨w.heap.size, 0, none⟩)] := by
    rw [hW]
    have := Blk.new (w.alloc (.cells #[.string ⟨#[]⟩, .int .i64 0, .bool false, .int .i64 0, .slice none 0 0, .int .i64 0, .slice none 0 0, .int .i64 0] 47)) 32 #[.pointer none, .pointer (some ⟨w.heap.size, 0, none⟩)]
    simpa using this
  have HL := Lib.hid bn
  have HD := Lib.hid (hd.below bn)
  have HP := Lib.hid hP
  have HV := Lib.hid (show ∀ k : Nat, k < 2 → ∃ v, #[Value.pointer none, .pointer (some ⟨w.heap.size, 0, none⟩)][k]? = some v ∧ ShutAt W v from fun k hk => by
    match k, hk with
    | 0, _ => exact ⟨_, rfl, shutAt_nil W⟩
    | 1, _ => exact ⟨_, rfl, shutAt_of hZ⟩)
  clear bn hd hP hZ
  go_enter Tryd.func4, Tryd.ntmps4
  go_wp2_with fail
  rw [← hW]
  clear hW
  go_loopw [5] (fun i wr => ∃ (k : Nat), k ≤ 2 ∧ i = .int .i64 (k : Int) ∧ Hid (Below W.heap.size W wr)) (fun i _ => 2 - (intOf i).toNat)
  case atStart => exact ⟨0, by omega, rfl, Lib.hid (Below.refl _ _)⟩
  case round =>
    obtain ⟨k, hk, rfl, Hb⟩ := hrel
    by_cases h2 : k < 2
    · obtain ⟨v, hv, hsh⟩ := HV.out k h2
      have HS := Lib.hid hsh
      have hcell : wr.cell? ⟨w.heap.size + 1, k, none⟩ = some v := by rw [(HP.out.stay Hb.out).cell k]; exact hv
      have h2i : (k : Int) < 2 := by omega
      clear hsh hv
      go_wp2_with fail
      refine ((HS.out wr Hb.out).1 b).mono ?_
      rintro x w2 ⟨rfl, hb2⟩
      have bn2 := below_new w2 (.cells #[.int .i64 15, .int .i64 0] 37)
      have HF1 := Lib.hid (Blk.new w2 37 #[.int .i64 15, .int .i64 0])
      have Hb2 := Lib.hid ((Hb.out.trans (hb2.mono Hb.out.size)).trans (bn2.mono (Nat.le_trans Hb.out.size hb2.size)))
      have hcell2 : (w2.alloc (.cells #[.int .i64 15, .int .i64 0] 37)).cell? ⟨w.heap.size + 1, k, none⟩ = some v := by
        rw [(HP.out.stay Hb2.out).cell k, ← (HP.out.stay Hb.out).cell k]; exact hcell
      clear hcell hb2 bn2
      go_wp2_with fail
      obtain ⟨W2, hW2⟩ : ∃ W, W = w2.alloc (.cells #[.int .i64 15, .int .i64 0] 37) := ⟨_, rfl⟩
      rw [← hW2] at HF1 Hb2 hcell2 ⊢
      clear hW2
      refine ((HS.out W2 Hb2.out).2.1).mono ?_
      rintro x w3 ⟨rfl, hb3⟩
      have bn3 := below_new w3 (.cells #[.int .i64 15, .int .i64 0] 37)
      have HF2 := Lib.hid (Blk.new w3 37 #[.int .i64 15, .int .i64 0])
      have Hb3 := Lib.hid ((Hb2.out.trans (hb3.mono Hb2.out.size)).trans (bn3.mono (Nat.le_trans Hb2.out.size hb3.size)))
      have hF1 := (HF1.out.stay hb3).stay bn3
      have hcell3 : (w3.alloc (.cells #[.int .i64 15, .int .i64 0] 37)).cell? ⟨w.heap.size + 1, k, none⟩ = some v := by
        rw [(HP.out.stay Hb3.out).cell k, ← (HP.out.stay Hb2.out).cell k]; exact hcell2
      clear hcell2 hb3 bn3
      have m0 := hF1.cell 0
      have m1 := hF1.cell 1
      have l0 := HF2.out.cell 0
      have l1 := HF2.out.cell 1
      go_wp2_with fail
      clear m0 m1 l0 l1 hF1 hcell3
      obtain ⟨W3, hW3⟩ : ∃ W, W = w3.alloc (.cells #[.int .i64 15, .int .i64 0] 37) := ⟨_, rfl⟩
      rw [← hW3] at HF2 Hb3 ⊢
      clear hW3
      refine ((HS.out W3 Hb3.out).2.2).mono ?_
      rintro x w4 ⟨rfl, rfl⟩
      go_wp2
      go_roundw
      case rel => exact ⟨k + 1, by omega, by go_num, Hb3⟩
      case measure => simp [intOf]; omega
    · have h2i : ¬ (k : Int) < 2 := by omega
      go_wp2_with fail
      refine (alive_any _ (HD.out.below Hb.out)).mono ?_
      rintro x w9 ⟨rfl, hb9⟩
      go_wp2
      go_ret
      exact ⟨rfl, HL.out.trans ((Hb.out.trans (hb9.mono Hb.out.size)).mono HL.out.size)⟩
end Go.Proofs.YtbcbmmgfdobdiaaDoor
