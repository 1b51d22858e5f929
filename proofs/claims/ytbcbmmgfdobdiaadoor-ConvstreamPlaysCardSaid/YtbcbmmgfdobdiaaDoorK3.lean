/- charset.Check. -/
import Derived.Test.YtbcbmmgfdobdiaaDoorK2
import Derived.Test.YtbcbmmgfdobdiaaDoorMp
namespace Go.Proofs.YtbcbmmgfdobdiaaDoor
open Go.RowKit
open Go.Maps (Keyed)

theorem keyInt : Keyed Tryd.prog 3 := Maps.int_keyed Tryd.underlying3
def okC (codes : List Int) : Prop := ∀ c ∈ codes, c = -1 ∨ scalB c = true
def dupC (codes : List Int) : Prop := ∃ (k : Nat) (c : Int), codes[k]? = some c ∧ c ≠ -1 ∧ c ∈ codes.take k
/-- what Check returns -/
def CkC (codes : List Int) (e : Int) : Prop :=
  (codes.length ≠ 256 ∧ e = 2) ∨ (codes.length = 256 ∧ ¬ okC codes ∧ e = 1) ∨ (codes.length = 256 ∧ okC codes ∧ dupC codes ∧ e = 5) ∨ (codes.length = 256 ∧ okC codes ∧ ¬ dupC codes ∧ e = 0)
theorem CkC_some (codes : List Int) : ∃ e, CkC codes e := by
  by_cases h1 : codes.length = 256
  · by_cases h2 : okC codes
    · by_cases h3 : dupC codes
      · exact ⟨5, Or.inr (Or.inr (Or.inl ⟨h1, h2, h3, rfl⟩))⟩
      · exact ⟨0, Or.inr (Or.inr (Or.inr ⟨h1, h2, h3, rfl⟩))⟩
    · exact ⟨1, Or.inr (Or.inl ⟨h1, h2, rfl⟩)⟩
  · exact ⟨2, Or.inl ⟨h1, rfl⟩⟩
theorem CkC_one {codes : List Int} {e e' : Int} (h : CkC codes e) (h' : CkC codes e') : e = e' := by
  rcases h with ⟨a1, rfl⟩ | ⟨a1, a2, rfl⟩ | ⟨a1, a2, a3, rfl⟩ | ⟨a1, a2, a3, rfl⟩ <;>
  rcases h' with ⟨b1, rfl⟩ | ⟨b1, b2, rfl⟩ | ⟨b1, b2, b3, rfl⟩ | ⟨b1, b2, b3, rfl⟩ <;> first | rfl | contradiction
theorem take_idx {l : List Int} {k : Nat} {c : Int} (h : c ∈ l.take k) : ∃ i, i < k ∧ l[i]? = some c := by
  obtain ⟨i, hi⟩ := List.mem_iff_getElem?.1 h
  rw [List.getElem?_take] at hi
  split at hi
  · rename_i hik; exact ⟨i, hik, hi⟩
  · cases hi
theorem idx_take {l : List Int} {k i : Nat} {c : Int} (hi : i < k) (h : l[i]? = some c) : c ∈ l.take k := by
  refine List.mem_iff_getElem?.2 ⟨i, ?_⟩
  rw [List.getElem?_take, if_pos hi]; exact h
theorem good_of {codes : List Int} (h1 : codes.length = 256) (h2 : okC codes) (h3 : ¬ dupC codes) : GoodCs codes := by
  refine ⟨h1, h2, fun i j c hi hj => ?_⟩
  by_cases hc : c = -1
  · exact Or.inl hc
  · right
    rcases Nat.lt_trichotomy i j with h | h | h
    · exact absurd ⟨j, c, hj, hc, idx_take h hi⟩ h3
    · exact h
    · exact absurd ⟨i, c, hi, hc, idx_take h hj⟩ h3
theorem not_dup {codes : List Int} (h : GoodCs codes) : ¬ dupC codes := by
  rintro ⟨k, c, hk, hc, hm⟩
  obtain ⟨i, hi, hic⟩ := take_idx hm
  rcases h.2.2 i k c hic hk with h' | h'
  · exact hc h'
  · omega
theorem CkC_zero {codes : List Int} : CkC codes 0 ↔ GoodCs codes := by
  constructor
  · rintro (⟨_, h⟩ | ⟨_, _, h⟩ | ⟨_, _, _, h⟩ | ⟨h1, h2, h3, _⟩)
    · cases h
    · cases h
    · cases h
    · exact good_of h1 h2 h3
  · intro h
    exact Or.inr (Or.inr (Or.inr ⟨h.1, h.2.1, not_dup h, rfl⟩))
theorem not_okC {codes : List Int} {k : Nat} {x : Int} (hx : codes[k]? = some x) (h1 : ¬ x = -1) (h2 : scalB x = false) : ¬ okC codes := by
  intro ho
  rcases ho x (List.mem_of_getElem? hx) with h | h
  · exact h1 h
  · rw [h2] at h; cases h
theorem not_dupC {codes : List Int} {k : Nat} (h : ∀ (j : Nat) (y : Int), j < k → codes[j]? = some y → y ≠ -1 → y ∉ codes.take j) (hk : codes.length ≤ k) : ¬ dupC codes := by
  rintro ⟨j, y, hy, hy1, hy2⟩
  have := (List.getElem?_eq_some_iff.1 hy).1
  exact h j y (by omega) hy hy1 hy2
/-- the codes that were seen -/
def seenC (codes : List Int) (k : Nat) (x : Int) : Option Bool := if x ∈ codes.take k then some true else none
theorem seenC_zero (codes : List Int) : seenC codes 0 = fun _ => none := by funext s; simp [seenC]
theorem seenC_succ {codes : List Int} {k : Nat} {c : Int} (h : codes[k]? = some c) : upd (seenC codes k) c true = seenC codes (k + 1) := by
  funext x
  obtain ⟨hk, he⟩ := List.getElem?_eq_some_iff.1 h
  simp only [upd, seenC]
  rw [List.take_succ_eq_append_getElem hk, he]
  by_cases hx : x = c
  · simp [hx]
  · simp [hx]

set_option maxRecDepth 100000 in
set_option maxHeartbeats 4000000 in
theorem charset_any (A : Option Addr) (n c : Nat) (codes : List Int) (e : Int) (w : World) (h : Reads w w.heap.size 1 A n (codes.map iv)) (hC : CkC codes e) :
    Calls Tryd.prog 57 #[.agg #[.slice A n c]] w fun x w' => x = .returned (.int .i64 e) ∧ Below w.heap.size w w' := by
  have hl : codes.length = n := by have := h.1; simpa using this
  have HB := Lib.hid (Blk.new w 24 #[.slice A n c])
  have hL := below_new w (.cells #[.slice A n c] 24)
  have HL := Lib.hid hL
  have HR := Lib.hid (h.stay hL)
  have g0 := HB.out.cell 0
  have hmm := @run_makeMap Tryd.prog
  by_cases hn : n = 256
  · subst hn
    have HC := Lib.hid hC
    have Hl := Lib.hid hl
    clear hC hl h hL
    go_enter Tryd.func57, Tryd.ntmps57
    go_wp2
    obtain ⟨W, hW⟩ : ∃ W, W = w.alloc (.cells #[.slice A 256 c] 24) := ⟨_, rfl⟩
    rw [← hW] at HB HL HR g0 ⊢
    clear hW
    go_loop [15] (fun i => ∃ k : Nat, k ≤ 256 ∧ i = .int .i64 (k : Int) ∧ Hid (∀ y ∈ codes.take k, y = -1 ∨ scalB y = true)) (fun i => 256 - (intOf i).toNat)
    case atStart => exact ⟨0, by omega, rfl, Lib.hid (fun y hy => by simp at hy)⟩
    case round =>
      obtain ⟨k, hk, rfl, Hk⟩ := hrel
      by_cases hlt : k < 256
      · obtain ⟨ad, u, rfl, _, hu, hcell⟩ := HR.out.at_ hlt
        obtain ⟨x, hx, rfl⟩ := iv_at hu
        clear hu
        have hnx : ∀ (hx2 : x = -1 ∨ scalB x = true), ∀ y ∈ codes.take (k + 1), y = -1 ∨ scalB y = true := fun hx2 y hy => by
          obtain ⟨hkl, he⟩ := List.getElem?_eq_some_iff.1 hx
          rw [List.take_succ_eq_append_getElem hkl, he] at hy
          rcases List.mem_append.1 hy with hy | hy
          · exact Hk.out y hy
          · simp at hy; subst hy; exact hx2
        by_cases q1 : x = -1
        · have H := Lib.hid (hnx (Or.inl q1))
          subst q1
          clear hx hnx
          go_wp2
          go_round
          case rel => exact ⟨k + 1, by omega, by go_num, H⟩
          case measure => simp [intOf]; omega
        · have q1d : (x != -1) = true := bne_iff_ne.2 q1
          cases hsc : scalB x with
          | true =>
            have H := Lib.hid (hnx (Or.inr hsc))
            have Hsc := Lib.hid hsc
            clear hx hnx q1 hsc
            go_wp2_with fail
            refine (scalar_any x _).mono ?_
            rintro e w1 ⟨rfl, rfl⟩
            rw [Hsc.out]
            go_wp2
            go_round
            case rel => exact ⟨k + 1, by omega, by go_num, H⟩
            case measure => simp [intOf]; omega
          | false =>
            have He := Lib.hid (CkC_one HC.out (Or.inr (Or.inl ⟨Hl.out, not_okC hx q1 hsc, rfl⟩)))
            have Hsc := Lib.hid hsc
            clear hx hnx q1 hsc
            go_wp2_with fail
            refine (scalar_any x _).mono ?_
            rintro e w1 ⟨rfl, rfl⟩
            rw [Hsc.out]
            go_wp2
            go_ret
            exact ⟨by rw [He.out]; rfl, HL.out⟩
      · have Hok : Hid (okC codes) := by
          have := Hk.out
          rw [List.take_of_length_le (by have := Hl.out; omega)] at this
          exact this
        have g0m := (HB.out.alloc (.map #[] 0)).cell 0
        have hk256 : ¬ (k : Int) < 256 := by omega
        clear hlt hk Hk
        go_wp2
        clear hk256 g0m
        go_loopw [31] (fun i wr => ∃ k m : Nat, k ≤ 256 ∧ m ≤ k ∧ i = .int .i64 (k : Int) ∧ Hid (∀ (j : Nat) (y : Int), j < k → codes[j]? = some y → y ≠ -1 → y ∉ codes.take j) ∧ Hid (MapIs Tryd.prog 3 4 (Lit.int .i64) Lit.bool wr W.heap.size m (seenC codes k)) ∧ Below W.heap.size W wr) (fun i _ => 256 - (intOf i).toNat)
        case atStart => exact ⟨0, 0, by omega, by omega, rfl, Lib.hid (fun j y hj => absurd hj (by omega)), Lib.hid (by have := MapIs.made Tryd.prog 3 4 (Lit.int .i64) Lit.bool W; rw [← seenC_zero codes] at this; exact this), below_new _ _⟩
        case round =>
          obtain ⟨k, m, hk, hmk, rfl, Hd, HM, hb⟩ := hrel
          by_cases hlt : k < 256
          · obtain ⟨ad, u, rfl, _, hu, hcell⟩ := (HR.out.below hb).at_ hlt
            obtain ⟨x, hx, rfl⟩ := iv_at hu
            clear hu
            have hxr : -1 ≤ x ∧ x ≤ 1114111 := by
              rcases Hok.out x (List.mem_of_getElem? hx) with h1 | h1
              · omega
              · simp only [scalB, decide_eq_true_eq] at h1; omega
            obtain ⟨hx1, hx2⟩ := hxr
            have hkey := keyOf_i64 Tryd.underlying3 x (by omega) (by omega)
            have Hsu := Lib.hid (seenC_succ hx)
            have hnx : ∀ (hx2 : x ≠ -1 → x ∉ codes.take k), ∀ (j : Nat) (y : Int), j < k + 1 → codes[j]? = some y → y ≠ -1 → y ∉ codes.take j := fun hx2 j y hj hy => by
              rcases Nat.lt_or_eq_of_le (Nat.le_of_lt_succ hj) with h1 | h1
              · exact Hd.out j y h1 hy
              · subst h1; rw [hx] at hy; injection hy with hy; subst hy; exact hx2
            have hmn : m < maxLen := by unfold maxLen; omega
            by_cases q1 : x = -1
            · have H := Lib.hid (hnx (fun hh => absurd q1 hh))
              subst q1
              clear hx hnx
              go_wp2_with (first | (at_mapUpdate; refine wpList_put rfl _ _ _ 126 rfl inj_i64 keyInt Tryd.underlying126 rfl HM.out hmn _ _ (-1) true rfl rfl hkey (plainElem_bool Tryd.underlying4 true) ?_; intro w3 hm3 hg3 hs3) | go_in)
              rw [Hsu.out] at hm3
              go_roundw
              case rel => exact ⟨k + 1, _, by omega, by split <;> omega, by go_num, H, Lib.hid hm3, hb.trans ((Below.refl _ _).grown hg3 hb.size (by intro g eg; injection eg; omega))⟩
              case measure => simp [intOf]; omega
            · have q1d : (x != -1) = true := bne_iff_ne.2 q1
              have hlook := HM.out.look keyInt Tryd.underlying126 (zv := false) (Tryd.zeroValue4 wr) (plainElem_bool Tryd.underlying4 false) hkey
              by_cases hseen : x ∈ codes.take k
              · rw [seenC, if_pos hseen] at hlook
                have hlook2 : (Instr.lookup 126 (.map (some W.heap.size)) (.int .i64 x) false).run Tryd.prog wr = .ok (.bool true) wr := hlook
                have He := Lib.hid (CkC_one HC.out (Or.inr (Or.inr (Or.inl ⟨Hl.out, Hok.out, ⟨k, x, hx, q1, hseen⟩, rfl⟩))))
                clear hx hnx q1 hseen hlook hkey
                go_wp2
                go_ret
                exact ⟨by rw [He.out]; rfl, HL.out.trans (hb.mono HL.out.size)⟩
              · rw [seenC, if_neg hseen] at hlook
                have hlook2 : (Instr.lookup 126 (.map (some W.heap.size)) (.int .i64 x) false).run Tryd.prog wr = .ok (.bool false) wr := hlook
                have H := Lib.hid (hnx (fun _ => hseen))
                clear hx hnx q1 hseen hlook
                go_wp2_with (first | (at_mapUpdate; refine wpList_put rfl _ _ _ 126 rfl inj_i64 keyInt Tryd.underlying126 rfl HM.out hmn _ _ x true rfl rfl hkey (plainElem_bool Tryd.underlying4 true) ?_; intro w3 hm3 hg3 hs3) | go_in)
                rw [Hsu.out] at hm3
                go_roundw
                case rel => exact ⟨k + 1, _, by omega, by split <;> omega, by go_num, H, Lib.hid hm3, hb.trans ((Below.refl _ _).grown hg3 hb.size (by intro g eg; injection eg; omega))⟩
                case measure => simp [intOf]; omega
          · have He := Lib.hid (CkC_one HC.out (Or.inr (Or.inr (Or.inr ⟨Hl.out, Hok.out, not_dupC (k := k) Hd.out (by have := Hl.out; omega), rfl⟩))))
            go_wp2
            go_ret
            exact ⟨by rw [He.out]; rfl, HL.out.trans (hb.mono HL.out.size)⟩
  · have He := Lib.hid (CkC_one hC (Or.inl ⟨by omega, rfl⟩))
    have hne : ((n : Int) != 256) = true := bne_iff_ne.2 (by omega)
    clear hC hl h hL hn
    go_enter Tryd.func57, Tryd.ntmps57
    go_wp2
    go_ret
    exact ⟨by rw [He.out]; rfl, HL.out⟩
end Go.Proofs.YtbcbmmgfdobdiaaDoor
