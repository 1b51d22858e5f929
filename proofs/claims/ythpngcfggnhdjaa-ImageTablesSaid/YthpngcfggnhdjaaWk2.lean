import Derived.Test.YthpngcfggnhdjaaFnv
import Derived.Lib.ConvBytes
namespace Go.Proofs.Ythpngcfggnhdjaa
open Go.RowKit Go.Proofs.Img

theorem openR_shut (l : List UInt8) : openR (shutB l) = (l, 0) := by
  have h : (shutB l).drop 4 = l := by simp [shutB, fourB]
  have hl : (shutB l).length = l.length + 4 := by simp [shutB, fourB]
  rw [openR, if_neg (by omega), h, if_pos rfl]
theorem shutB_len (l : List UInt8) : (shutB l).length = l.length + 4 := by simp [shutB, fourB]

set_option maxRecDepth 100000 in
set_option maxHeartbeats 1000000 in
theorem wk_shuts (a0 a1 : ByteArray) (w : World) :
    Calls Try.prog 7 #[.string a0, .string a1] w fun e w' => e = .returned (.bool true) ∧ Below w.heap.size w w' := by
  obtain ⟨l, rfl⟩ : ∃ l : List UInt8, a0 = ⟨l.toArray⟩ := ⟨a0.data.toList, by simp⟩
  obtain ⟨m, rfl⟩ : ∃ l : List UInt8, a1 = ⟨l.toArray⟩ := ⟨a1.data.toList, by simp⟩
  by_cases h : 2000 < l.length
  · have h' : (2000 : Int) < (l.length : Int) := by omega
    go_enter Try.func7, Try.ntmps7
    go_wp2_with fail
    refine (alive_any _).mono ?_
    rintro e w1 ⟨rfl, hb⟩
    go_wp2
    go_ret
    exact ⟨rfl, hb⟩
  have h' : ¬ (2000 : Int) < (l.length : Int) := by omega
  by_cases h2 : 2000 < m.length
  · have h2' : (2000 : Int) < (m.length : Int) := by omega
    go_enter Try.func7, Try.ntmps7
    go_wp2_with fail
    refine (alive_any _).mono ?_
    rintro e w1 ⟨rfl, hb⟩
    go_wp2
    go_ret
    exact ⟨rfl, hb⟩
  have h2' : ¬ (2000 : Int) < (m.length : Int) := by omega
  have hsl := shutB_len l
  have Hsl := Lib.hid hsl
  obtain ⟨S, hS⟩ : ∃ S, S = shutB l := ⟨_, rfl⟩
  have hSl : S.length ≤ 2004 := by rw [hS]; omega
  have HS := Lib.hid hS
  have Ho := Lib.hid (show openR S = (l, 0) by rw [hS]; exact openR_shut l)
  obtain ⟨R, n, hR⟩ : ∃ R n, openR m = (R, n) := ⟨_, _, rfl⟩
  have HR := Lib.hid hR
  clear hR hS hsl
  go_enter Try.func7, Try.ntmps7
  go_wp2_with fail
  refine (shut_any l w (by omega)).mono ?_
  rintro e w1 ⟨rfl, hb1⟩
  rw [← HS.out]
  go_wp2_with fail
  refine (open_any S w1 (by omega)).mono ?_
  rintro e w2 ⟨rfl, hb2⟩
  rw [Ho.out]
  go_wp2_with fail
  refine (open_any m w2 (by omega)).mono ?_
  rintro e w3 ⟨rfl, hb3⟩
  rw [HR.out]
  go_wp2_with fail
  refine (refopen_any m w3 (by omega)).mono ?_
  rintro e w4 ⟨rfl, hb4⟩
  rw [HR.out]
  go_wp2_with fail
  refine (refshut_any l w4 (by omega)).mono ?_
  rintro e w5 ⟨rfl, hb5⟩
  rw [← HS.out]
  go_wp2_with fail
  refine (alive_any _).mono ?_
  rintro e w6 ⟨rfl, hb6⟩
  go_wp2
  go_ret
  refine ⟨rfl, ?_⟩
  have k2 := hb1.trans (hb2.mono hb1.size)
  have k3 := k2.trans (hb3.mono k2.size)
  have k4 := k3.trans (hb4.mono k3.size)
  have k5 := k4.trans (hb5.mono k4.size)
  exact k5.trans (hb6.mono k5.size)

/-- '[]byte(s)': what is known of the new row -/
theorem conv_bytes (w : World) (S : List UInt8) : ∃ (cap : Nat) (W : World), (convert 9 39 (.string ⟨S.toArray⟩)).run Try.prog w = .ok (.slice (some ⟨w.heap.size, 0, none⟩) S.length cap) W ∧
    (∀ j (h : j < S.length), W.cell? ⟨w.heap.size, j, none⟩ = some (bv S[j])) ∧ (∀ j, j < S.length → W.frozen? ⟨w.heap.size, j, none⟩ = false) ∧ Below w.heap.size w W ∧ W.heap.size = w.heap.size + 1 := by
  refine ⟨_, _, Lib.run_convert_string_bytes w 9 39 5 ⟨S.toArray⟩ Try.underlying9 Try.underlying39 Try.underlying5, ?_, ?_, ?_, Lib.bytesWorld_size _ _ _⟩
  · intro j h
    rw [Lib.bytesWorld_cell w 5 ⟨S.toArray⟩ j h]
    simp [bv, List.getD, List.getElem?_eq_getElem h]
  · intro j h
    have hn := Lib.bytesWorld_at_new w 5 ⟨S.toArray⟩
    unfold World.frozen?
    rw [hn]
    have : j < (Lib.bytesCells w 5 ⟨S.toArray⟩).size := by simp [Lib.bytesCells]; omega
    simp; omega
  · exact ⟨rfl, rfl, rfl, by rw [Lib.bytesWorld_size]; omega, fun k hk => Lib.bytesWorld_at_old _ _ _ _ hk⟩

set_option maxRecDepth 100000 in
set_option maxHeartbeats 1000000 in
theorem wk_changes (a0 : ByteArray) (a1 a2 : Int) (w : World) (w1 : (Lit.int .u16 a1).wf = true) (w2 : (Lit.int .u8 a2).wf = true) :
    Calls Try.prog 8 #[.string a0, .int .u16 a1, .int .u8 a2] w fun e w' => e = .returned (.bool true) ∧ Below w.heap.size w w' := by
  obtain ⟨l, rfl⟩ : ∃ l : List UInt8, a0 = ⟨l.toArray⟩ := ⟨a0.data.toList, by simp⟩
  have hcut : 0 ≤ a1 ∧ a1 ≤ 65535 := by simpa [Lit.wf, IntKind.min, IntKind.max, IntKind.signed, IntKind.bits] using w1
  have hby : 0 ≤ a2 ∧ a2 ≤ 255 := by simpa [Lit.wf, IntKind.min, IntKind.max, IntKind.signed, IntKind.bits] using w2
  obtain ⟨hc0, hc1⟩ := hcut
  obtain ⟨hd0, hd1⟩ := hby
  clear w1 w2
  by_cases h : 2000 < l.length
  · have h' : (2000 : Int) < (l.length : Int) := by omega
    go_enter Try.func8, Try.ntmps8
    go_wp2_with fail
    refine (alive_any _).mono ?_
    rintro e w1 ⟨rfl, hb⟩
    go_wp2
    go_ret
    exact ⟨rfl, hb⟩
  have h' : ¬ (2000 : Int) < (l.length : Int) := by omega
  have hsl := shutB_len l
  obtain ⟨S, hS⟩ : ∃ S, S = shutB l := ⟨_, rfl⟩
  rw [← hS] at hsl
  have HS := Lib.hid hS
  obtain ⟨j, hj⟩ : ∃ j : Nat, (j : Int) = a1 % (S.length : Int) := ⟨(a1 % (S.length : Int)).toNat, by have := Int.emod_nonneg a1 (b := (S.length : Int)) (by omega); omega⟩
  have hjl : j < S.length := by have := Int.emod_lt_of_pos a1 (b := (S.length : Int)) (by omega); omega
  have hmod : a1.tmod (S.length : Int) = (j : Int) := by rw [hj, Int.tmod_eq_emod_of_nonneg hc0]
  obtain ⟨d, rfl⟩ := Int.eq_ofNat_of_zero_le hd0
  have hlen : (S.length : Int) = (l.length : Int) + 4 := by omega
  have hSl : S.length ≤ 2004 := by omega
  have hneq : ((S.length : Int) != (l.length : Int) + 4) = false := by simp; omega
  obtain ⟨x, hx⟩ : ∃ x, x = S[j].toNat := ⟨_, rfl⟩
  have hx256 : x < 256 := by rw [hx]; exact S[j].toNat_lt
  obtain ⟨y, hy⟩ : ∃ y, y = x ^^^ (1 + d % 255) := ⟨_, rfl⟩
  have hxor : bits .xor .u8 (x : Int) (1 + (d : Int) % 255) = (y : Int) := by
    have := u8_xor_nat x (1 + d % 255) hx256 (by omega)
    rw [hy, ← this]; rfl
  have hy256 : y < 256 := by rw [hy]; exact Nat.xor_lt_two_pow (n := 8) (by omega) (by omega)
  have hch : Hid (openR (S.set j (UInt8.ofNat y)) = ([], 14)) := by
    show openR (S.set j (UInt8.ofNat y)) = ([], 14)
    subst hS
    refine open_changed l j hjl _ (fun e => ?_)
    have e2 := congrArg UInt8.toNat e
    rw [toNat_ofNat y hy256, ← hx, hy] at e2
    have e3 : x ^^^ 0 = x ^^^ (1 + d % 255) := by rw [Nat.xor_zero]; exact e2
    have := xor_left_inj e3
    omega
  have Hx := Lib.hid hx
  have Hj := Lib.hid hj
  have hlen0 : ((S.length : Int) == 0) = false := beq_eq_false_iff_ne.2 (by omega)
  clear hx hy hj hS hsl hlen
  go_enter Try.func8, Try.ntmps8
  go_wp2_with fail
  refine (shut_any l w (by omega)).mono ?_
  rintro e w1 ⟨rfl, hb1⟩
  rw [← HS.out]
  obtain ⟨cap, W, hcv, hcell, hfr, hBW, hWs⟩ := conv_bytes w1 S
  have hc1 := hcell j hjl
  have hf1 := hfr j hjl
  rw [show bv S[j] = .int .u8 (x : Int) by rw [Hx.out]; rfl] at hc1
  have Hcell := Lib.hid hcell
  have HWs := Lib.hid hWs
  clear hcell hfr hWs
  have hrd : Reads (W.setCell ⟨w1.heap.size, j, none⟩ (.int .u8 (y : Int))) (w1.heap.size + 1) 1 (some ⟨w1.heap.size, 0, none⟩) S.length ((S.set j (UInt8.ofNat y)).map bv) := by
    refine ⟨by simp, fun _ => ⟨_, rfl, by simp, fun i u hu => ?_⟩⟩
    have hp : (⟨w1.heap.size, 0, none⟩ : Addr).add i = ⟨w1.heap.size, i, none⟩ := by unfold Addr.add; split <;> simp_all
    rw [hp]
    rw [List.getElem?_map] at hu
    by_cases hij : i = j
    · subst hij
      rw [List.getElem?_set_self hjl] at hu
      simp only [Option.map_some, Option.some.injEq] at hu
      rw [← hu, bv_ofNat y hy256]
      exact World.cell?_setCell_same' _ _ _ (by rw [hc1]; rfl)
    · rw [List.getElem?_set_ne (fun e => hij e.symm)] at hu
      cases hi : S[i]? with
      | none => rw [hi] at hu; simp at hu
      | some b =>
        obtain ⟨i1, i2⟩ := List.getElem?_eq_some_iff.1 hi
        rw [hi] at hu
        simp only [Option.map_some, Option.some.injEq] at hu
        rw [World.cell?_setCell_other _ _ _ _ (by intro e; injection e with _ e; exact hij e.symm), Hcell.out i i1, i2, hu]
  have hcv2 := run_convert_reads (P := Try.prog) _ Try.underlying39 Try.underlying5 Try.underlying9 cap hrd
  obtain ⟨T, hT⟩ : ∃ T, T = S.set j (UInt8.ofNat y) := ⟨_, rfl⟩
  rw [← hT] at hcv2 hch
  have hTl : T.length ≤ 2004 := by rw [hT, List.length_set]; exact hSl
  have HT := Lib.hid hT
  clear hT hrd
  have hbW : Below w.heap.size w (W.setCell ⟨w1.heap.size, j, none⟩ (.int .u8 (y : Int))) := (hb1.trans (hBW.mono hb1.size)).setCell hb1.size _
  go_wp2_with fail
  refine (open_any T _ (by omega)).mono ?_
  rintro e w3 ⟨rfl, hb3⟩
  rw [hch.out]
  go_wp2_with fail
  refine (alive_any _).mono ?_
  rintro e w4 ⟨rfl, hb4⟩
  go_wp2
  go_ret
  have k3 := hbW.trans (hb3.mono hbW.size)
  exact ⟨rfl, k3.trans (hb4.mono k3.size)⟩
end Go.Proofs.Ythpngcfggnhdjaa
