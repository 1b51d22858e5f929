/- The end of the building in plain Lean: the table is canonical, and its values are those of the spans. -/
import Derived.Test.YtnlmikefihaldaaMa
namespace Go.Proofs.Ytnlmikefihaldaa
open Go.RowKit

/-- the value of a code point by a table -/
def look (ws : List Int) (ss : List (List Int)) (c : Nat) : Int := ex ws ss (ws.length - 1) 0 ((stg ss 0).getD (c / 2 ^ bel ws 0) 0).toNat (c % 2 ^ bel ws 0)
/-- stage 0 while it is made -/
structure S0 (ws : List Int) (l : List (Int × Int × Int)) (st : PS) (j : Nat) : Prop where
  len : (stg st.ss 0).length = j
  inv : GInv ws st 0 (j * 2 ^ bel ws 0)
  sc : scan 0 (stg st.ss 0) = some (cnt ws st.ss 0)
  val : ∀ t x, (stg st.ss 0)[t]? = some x → ∃ n : Nat, x = (n : Int) ∧ n < cnt ws st.ss 0 ∧ ∀ o, o < 2 ^ bel ws 0 → ex ws st.ss (ws.length - 1) 0 n o = valF l ((t * 2 ^ bel ws 0 + o : Nat) : Int)
def putTop (st : PS) (i : Int) : PS := ⟨st.ss.set 0 (stg st.ss 0 ++ [i]), st.fm, st.um⟩
theorem ex_top (ws : List Int) (st : PS) (i : Int) : ∀ (f k n o : Nat), ex ws (putTop st i).ss f k n o = ex ws st.ss f k n o := by
  have e : ∀ j, stg (putTop st i).ss (j + 1) = stg st.ss (j + 1) := fun j => stg_set_other (by omega) _
  intro f
  induction f with
  | zero => intro k n o; rw [ex, ex, e]
  | succ f ih => intro k n o; rw [ex, ex, e, ih]
theorem s0_step {ws : List Int} (hw : okW ws) {l : List (Int × Int × Int)} {st st' : PS} {j i : Nat} (h : S0 ws l st j) (hb : BPost ws l st st' 0 (j * 2 ^ bel ws 0) i) : S0 ws l (putTop st' (i : Int)) (j + 1) := by
  have hl : 0 < st'.ss.length := by rw [hb.inv.1]; omega
  have e0 : stg (putTop st' (i : Int)).ss 0 = stg st.ss 0 ++ [(i : Int)] := by
    show stg (st'.ss.set 0 _) 0 = _
    rw [stg_set_same hl, hb.ext.1 0 (Nat.le_refl _)]
  have e1 : ∀ k, stg (putTop st' (i : Int)).ss (k + 1) = stg st'.ss (k + 1) := fun k => stg_set_other (by omega) _
  have ec : ∀ k, cnt ws (putTop st' (i : Int)).ss k = cnt ws st'.ss k := fun k => by unfold cnt; rw [e1]
  have hw1 := hw.1
  refine ⟨by rw [e0, List.length_append, h.len]; rfl, ⟨by show (st'.ss.set _ _).length = _; rw [List.length_set]; exact hb.inv.1, fun k h1 h2 => ?_⟩, ?_, fun t x hx => ?_⟩
  · obtain ⟨hg, hp⟩ := hb.inv.2 k h1 h2
    refine ⟨⟨by rw [e1, ec]; exact hg.len, by rw [e1, ec]; exact hg.ap, fun h3 => by rw [e1, ec]; exact hg.sc h3, by rw [e1]; exact hg.w64, by rw [e1, ec]; exact hg.fmok, fun v y hu => ?_⟩, by rw [e1, Nat.succ_mul]; exact hp⟩
    obtain ⟨n, hn, n1, n2⟩ := hg.umok v y hu
    exact ⟨n, hn, by rw [ec]; exact n1, fun o ho => by rw [ex_top]; exact n2 o ho⟩
  · rw [e0, scan_app h.sc, scan_one hb.le, ec, hb.cnt]
  · rw [e0] at hx
    rcases stg_app h.len hx with hx | ⟨rfl, rfl⟩
    · obtain ⟨n, rfl, n1, n2⟩ := h.val t x hx
      exact ⟨n, rfl, by rw [ec]; exact Nat.lt_of_lt_of_le n1 (cnt_ext hb.ext 0), fun o ho => by rw [ex_top, ex_ext hw hb.ext _ _ _ _ _ h.inv (by omega) n1 ho, n2 o ho]⟩
    · exact ⟨i, rfl, by rw [ec]; exact hb.lt, fun o ho => by rw [ex_top]; exact hb.val o ho⟩
theorem s0_end {ws : List Int} (hw : okW ws) {l : List (Int × Int × Int)} {st : PS} {j : Nat} (h : S0 ws l st j) (hj : j = 1114112 / 2 ^ ws.sum.toNat) : okT ws st.ss ∧ ∀ c, c < 1114112 → look ws st.ss c = valF l (c : Int) := by
  refine ⟨⟨hw, h.inv.1, by rw [h.len, hj], fun i hi => ?_⟩, fun c hc => ?_⟩
  · obtain ⟨hg, _⟩ := h.inv.2 i (by omega) hi
    cases i with
    | zero => exact ⟨_, h.sc, hg.len, hg.ap⟩
    | succ i =>
      obtain ⟨hg', _⟩ := h.inv.2 i (by omega) (by omega)
      exact ⟨_, hg'.sc hi, hg.len, hg.ap⟩
  · have hb := bel_le hw 0
    have hdv : 2 ^ bel ws 0 * j = 1114112 := by
      rw [hj, ← bel_zero]
      refine Nat.mul_div_cancel' ?_
      exact Nat.dvd_trans (Nat.pow_dvd_pow 2 hb) (by decide)
    have hlt : c / 2 ^ bel ws 0 < (stg st.ss 0).length := by
      rw [h.len, Nat.div_lt_iff_lt_mul (Nat.two_pow_pos _), Nat.mul_comm, hdv]; exact hc
    obtain ⟨n, hn, n1, n2⟩ := h.val _ _ (getD_of hlt)
    unfold look
    rw [hn, Int.toNat_natCast, n2 _ (Nat.mod_lt _ (Nat.two_pow_pos _)), Nat.mul_comm, Nat.div_add_mod]
end Go.Proofs.Ytnlmikefihaldaa
