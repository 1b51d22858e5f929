/- The reference's Put (layer 7): without a form, UTF-8, a charset. -/
import Derived.Test.YtbcbmmgfdobdiaaDoorRK4
namespace Go.Proofs.YtbcbmmgfdobdiaaDoor
open Go.RowKit

theorem formK_no {kind : Int} {codes : List Int} {x : Int} (hC : CkE kind codes 0) (hx : scalB x = false) : formK (cdOf kind codes) x = none := by
  cases hf : formK (cdOf kind codes) x with
  | none => rfl
  | some y =>
    have := (stepK_form (good_cd hC) hf []).2.2
    rw [hx] at this; cases this

set_option maxRecDepth 100000 in
set_option maxHeartbeats 2000000 in
theorem rput_none (kind : Int) (A : Option Addr) (n c : Nat) (codes : List Int) (e x : Int) (w : World) (h : Reads w w.heap.size 1 A n (codes.map iv)) (hC : CkE kind codes e) (hz : e ≠ 0 ∨ scalB x = false) :
    Calls Tryd.prog 29 #[.agg #[.int .i64 kind, .slice A n c], .int .i64 x] w fun r w' => r = .returned (formV none) ∧ Below w.heap.size w w' := by
  have HB := Lib.hid (Blk.new w 26 #[.int .i64 kind, .slice A n c])
  have hL := below_new w (.cells #[.int .i64 kind, .slice A n c] 26)
  have HL := Lib.hid hL
  have HR := Lib.hid (h.stay hL)
  have HC := Lib.hid hC
  have g0 := HB.out.cell 0
  have g1 := HB.out.cell 1
  clear hL h hC
  go_enter Tryd.func29, Tryd.ntmps29
  go_wp2_with fail
  refine (rcheck_any kind A n c codes e _ HR.out HC.out).mono ?_
  rintro r w1 ⟨rfl, hb1⟩
  clear g0 g1
  have hB := Lib.hid (HL.out.trans (hb1.mono HL.out.size))
  by_cases he : e = 0
  · subst he
    have Hx := Lib.hid (show scalB x = false from hz.elim (fun h => absurd rfl h) id)
    clear hz
    go_wp2_with fail
    refine (rscalar_any x _).mono ?_
    rintro r w2 ⟨rfl, rfl⟩
    rw [Hx.out]
    go_wp2
    exact bodyPost_ret (v := .tuple #[.string ⟨([] : List UInt8).toArray⟩, .bool false]) (by simp [results, Tryd.results29, go_sem]) rfl ⟨rfl, hB.out⟩
  · have hne : (e != 0) = true := bne_iff_ne.2 he
    clear hz he
    go_wp2
    exact bodyPost_ret (v := .tuple #[.string ⟨([] : List UInt8).toArray⟩, .bool false]) (by simp [results, Tryd.results29, go_sem]) rfl ⟨rfl, hB.out⟩

set_option maxRecDepth 100000 in
set_option maxHeartbeats 2000000 in
theorem rput_u8 (A : Option Addr) (n c : Nat) (codes : List Int) (x : Int) (w : World) (h : Reads w w.heap.size 1 A n (codes.map iv)) (hC : CkE 1 codes 0) (hx : scalB x = true) :
    Calls Tryd.prog 29 #[.agg #[.int .i64 1, .slice A n c], .int .i64 x] w fun r w' => r = .returned (formV (formK (cdOf 1 codes) x)) ∧ Below w.heap.size w w' := by
  have HB := Lib.hid (Blk.new w 26 #[.int .i64 1, .slice A n c])
  have hL := below_new w (.cells #[.int .i64 1, .slice A n c] 26)
  have HL := Lib.hid hL
  have HR := Lib.hid (h.stay hL)
  have HC := Lib.hid hC
  have Hx := Lib.hid hx
  have He := Lib.hid (show formK (cdOf 1 codes) x = some (form8 x.toNat) by show formK .u8 x = _; simp only [formK]; rw [if_pos hx])
  have g0 := HB.out.cell 0
  have g1 := HB.out.cell 1
  clear hL h hC hx
  go_enter Tryd.func29, Tryd.ntmps29
  go_wp2_with fail
  refine (rcheck_any 1 A n c codes 0 _ HR.out HC.out).mono ?_
  rintro r w1 ⟨rfl, hb1⟩
  clear g0 g1
  have hB := Lib.hid (HL.out.trans (hb1.mono HL.out.size))
  have g0 := (HB.out.stay hb1).cell 0
  have g1 := (HB.out.stay hb1).cell 1
  go_wp2_with fail
  refine (rscalar_any x _).mono ?_
  rintro r w2 ⟨rfl, rfl⟩
  rw [Hx.out]
  have R := Lib.hid (reads_new w1 #[.int .i64 x] 3 ([x].map iv) rfl)
  have bn := Lib.hid (below_new w1 (.cells #[.int .i64 x] 3))
  go_wp2_with fail
  refine (rencode8_any 1 1 _ [x] 1 _ (R.out.more (by simp)) (by omega)).mono ?_
  rintro r w3 ⟨rfl, hb3⟩
  have bx : Below w1.heap.size w1 w3 := bn.out.trans (hb3.mono bn.out.size)
  have b3 := hB.out.trans (bx.mono hB.out.size)
  rw [enc8_one, Hx.out]
  rw [if_pos rfl]
  clear hb3 bx
  have b4 := Lib.hid (b3.alloc b3.size (.cells #[.int .i64 0, .int .i64 0] 37))
  clear b3
  go_wp2
  exact bodyPost_ret (v := .tuple #[.string ⟨(form8 x.toNat).toArray⟩, .bool true]) (by simp [results, Tryd.results29, go_sem]) rfl ⟨by rw [He.out]; rfl, b4.out⟩

theorem place_first {codes : List Int} {k : Nat} {x : Int} (hk : codes[k]? = some x) (hn : x ∉ codes.take k) : placeOf codes x = some k := by
  unfold placeOf
  rw [List.findIdx?_eq_some_iff_getElem]
  obtain ⟨h1, h2⟩ := List.getElem?_eq_some_iff.1 hk
  refine ⟨h1, by simp [h2], fun j hj => ?_⟩
  have hj1 : j < codes.length := by omega
  simp only [decide_eq_true_eq]
  intro he
  exact hn (idx_take hj (by rw [List.getElem?_eq_getElem hj1, he]))
theorem place_miss {codes : List Int} {x : Int} (hn : x ∉ codes) : placeOf codes x = none := by
  unfold placeOf
  rw [List.findIdx?_eq_none_iff]
  intro y hy
  simp only [decide_eq_false_iff_not]
  rintro rfl
  exact hn hy

set_option maxRecDepth 100000 in
set_option maxHeartbeats 2000000 in
theorem rput_one (A : Option Addr) (n c : Nat) (codes : List Int) (x : Int) (w : World) (h : Reads w w.heap.size 1 A n (codes.map iv)) (hC : CkE 4 codes 0) (hx : scalB x = true) :
    Calls Tryd.prog 29 #[.agg #[.int .i64 4, .slice A n c], .int .i64 x] w fun r w' => r = .returned (formV (formK (cdOf 4 codes) x)) ∧ Below w.heap.size w w' := by
  have HB := Lib.hid (Blk.new w 26 #[.int .i64 4, .slice A n c])
  have hL := below_new w (.cells #[.int .i64 4, .slice A n c] 26)
  have HL := Lib.hid hL
  have HR := Lib.hid (h.stay hL)
  have HC := Lib.hid hC
  have Hx := Lib.hid hx
  have hl : codes.length = n := by have := h.1; simpa using this
  have hg : GoodCs codes := CkC_zero.1 (by rcases hC with ⟨h, _⟩ | ⟨_, h⟩ | ⟨_, h⟩; omega; exact h; exact absurd h (by decide))
  obtain rfl : n = 256 := by have := hg.1; omega
  have Hl := Lib.hid hl
  have hx0 : 0 ≤ x := by simp only [scalB, decide_eq_true_eq] at hx; omega
  have HF := Lib.hid (show ∀ o, placeOf codes x = o → formK (cdOf 4 codes) x = o.map fun i => [UInt8.ofNat i] from fun o ho => by
    show formK (.one codes) x = _
    simp only [formK]; rw [if_neg (by omega), ho])
  have g0 := HB.out.cell 0
  have g1 := HB.out.cell 1
  clear hL h hC hx hl hg hx0
  go_enter Tryd.func29, Tryd.ntmps29
  go_wp2_with fail
  refine (rcheck_any 4 A 256 c codes 0 _ HR.out HC.out).mono ?_
  rintro r w1 ⟨rfl, hb1⟩
  clear g0 g1
  have hB := Lib.hid (HL.out.trans (hb1.mono HL.out.size))
  have g0 := (HB.out.stay hb1).cell 0
  have g1 := (HB.out.stay hb1).cell 1
  have HR1 := Lib.hid (HR.out.stay hb1)
  clear hb1
  go_wp2_with fail
  refine (rscalar_any x _).mono ?_
  rintro r w2 ⟨rfl, rfl⟩
  rw [Hx.out]
  go_wp2
  go_loop [8] (fun i => ∃ k : Nat, k ≤ 256 ∧ i = .int .i64 (k : Int) ∧ Hid (x ∉ codes.take k)) (fun i => 256 - (intOf i).toNat)
  case atStart => exact ⟨0, by omega, rfl, Lib.hid (by simp)⟩
  case round =>
    obtain ⟨k, hk, rfl, Hk⟩ := hrel
    by_cases hlt : k < 256
    · have hlt' : (k : Int) < 256 := by omega
      obtain ⟨ad, u, rfl, _, hu, hcell⟩ := HR1.out.at_ hlt
      obtain ⟨y, hy, rfl⟩ := iv_at hu
      clear hu
      by_cases hyx : y = x
      · subst hyx
        have He := Lib.hid (HF.out _ (place_first hy Hk.out))
        have hcv := conv_new (P := Tryd.prog) w1 Tryd.underlying92 Tryd.underlying5 Tryd.underlying9 #[.int .u8 (k : Int)] [UInt8.ofNat k] (by rw [List.map_cons, List.map_nil, bv_ofNat k hlt]) 1 rfl
        have B2 := Lib.hid (hB.out.alloc hB.out.size (.cells #[.int .u8 (k : Int)] 5))
        have hwk : IntKind.u8.wrap (k : Int) = (k : Int) := by simp [IntKind.wrap, IntKind.bits, IntKind.signed]; omega
        clear hy
        go_wp2
        exact bodyPost_ret (v := .tuple #[.string ⟨[UInt8.ofNat k].toArray⟩, .bool true]) (by simp [results, Tryd.results29, go_sem]) rfl ⟨by rw [He.out]; rfl, B2.out⟩
      · have hyx' : (y == x) = false := by simpa using hyx
        have H : Hid (x ∉ codes.take (k + 1)) := Lib.hid (by
          obtain ⟨hkl, he⟩ := List.getElem?_eq_some_iff.1 hy
          rw [List.take_succ_eq_append_getElem hkl, he, List.mem_append]
          rintro (h | h)
          · exact Hk.out h
          · simp at h; exact hyx h.symm)
        clear hy hyx
        go_wp2
        go_round
        case rel => exact ⟨k + 1, by omega, by go_num, H⟩
        case measure => simp [intOf]; omega
    · have He := Lib.hid (HF.out _ (place_miss (by have := Hk.out; rwa [List.take_of_length_le (by have := Hl.out; omega)] at this)))
      have hlt' : ¬ (k : Int) < 256 := by omega
      go_wp2
      exact bodyPost_ret (v := .tuple #[.string ⟨([] : List UInt8).toArray⟩, .bool false]) (by simp [results, Tryd.results29, go_sem]) rfl ⟨by rw [He.out]; rfl, hB.out⟩
end Go.Proofs.YtbcbmmgfdobdiaaDoor
