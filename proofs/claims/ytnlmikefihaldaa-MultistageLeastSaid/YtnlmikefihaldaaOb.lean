/- The reference's Changes returns. -/
import Derived.Test.YtnlmikefihaldaaOa
import Derived.Test.YtnlmikefihaldaaMk
namespace Go.Proofs.Ytnlmikefihaldaa
open Go.RowKit

theorem edges_any (A A' : Option Addr) (n c n' c' : Nat) (ws : List Int) (ss : List (List Int)) (hf : formedT ws ss) (hl : ∀ i, (stg ss i).length ≤ 12000) (d : Nat) :
    ∀ s, s + d = ws.length → ∀ w, Tab w w.heap.size A n c A' n' c' ws ss → Calls Try.prog 49 #[.agg #[.slice A n c, .slice A' n' c'], .int .i64 (s : Int)] w fun e w' => EdgE w' (cntS ws ss s) e ∧ Below w.heap.size w w' := by
  induction d with
  | zero => exact fun s hs w h => edges_step A A' n c n' c' ws ss hf hl s (by omega) (fun h => absurd h (by omega)) w h
  | succ d ih =>
    exact fun s hs w h => edges_step A A' n c n' c' ws ss hf hl s (by omega) (fun _ w h => by have := ih (s + 1) (by omega) w h; rw [Int.natCast_add] at this; exact this) w h
def IntE (e : Ending) : Prop := ∃ x : Int, e = .returned (.int .i64 x)
set_option maxRecDepth 100000 in
set_option maxHeartbeats 4000000 in
theorem changes_any (A A' : Option Addr) (n c n' c' : Nat) (ws : List Int) (ss : List (List Int)) (w : World) (h : Tab w w.heap.size A n c A' n' c' ws ss) (hn : n ≤ 1000000000) (hn' : n' ≤ 1000000000) (hl : ∀ i, (stg ss i).length ≤ 12000) :
    Calls Try.prog 24 #[.agg #[.slice A n c, .slice A' n' c']] w fun e w' => IntE e ∧ Below w.heap.size w w' := by
  have hL : Below w.heap.size w (w.alloc (.cells #[.slice A n c, .slice A' n' c'] 28)) := (Below.refl _ w).alloc (Nat.le_refl _) _
  have HB := Lib.hid (Blk.new w 28 #[.slice A n c, .slice A' n' c'])
  have HT := Lib.hid ((h.below hL).more hL.size)
  have HL := Lib.hid hL
  have Hln := Lib.hid hl
  clear h hL hl
  have g0 := HB.out.cell 0
  have g1 := HB.out.cell 1
  go_enter Try.func24, Try.ntmps24
  go_wp2_with fail
  obtain ⟨W, hW⟩ : ∃ W, W = w.alloc (.cells #[.slice A n c, .slice A' n' c'] 28) := ⟨_, rfl⟩
  rw [← hW] at HB HT HL g0 g1 ⊢
  clear hW
  refine (formed_any A A' n c n' c' ws ss W HT.out hn hn' (fun i => Nat.le_trans (Hln.out i) (by omega))).mono ?_
  rintro e w1 ⟨⟨b, rfl, hb⟩, hb1⟩
  have HB1 := Lib.hid (HB.out.stay hb1)
  have HT1 := Lib.hid ((HT.out.below hb1).more hb1.size)
  have HL1 := Lib.hid (HL.out.trans (hb1.mono HL.out.size))
  have Hb := Lib.hid hb
  clear hb hb1 g0 g1
  have g0 := HB1.out.cell 0
  have g1 := HB1.out.cell 1
  cases b with
  | false =>
    go_wp2_with fail
    go_ret
    exact ⟨⟨0, rfl⟩, HL1.out⟩
  | true =>
    have hE := edges_any A A' n c n' c' ws ss (Hb.out.1 rfl) Hln.out ws.length 0 (by omega) w1 HT1.out
    have HE := Lib.hid hE
    clear hE
    go_wp2_with fail
    refine HE.out.mono ?_
    rintro e w2 ⟨⟨A7, c7, es, rfl, hr7⟩, hb7⟩
    have HL2 := Lib.hid (HL1.out.trans (hb7.mono HL1.out.size))
    have hr8 : Reads w2 w2.heap.size 3 A7 1 (es.flatMap spv) := hr7
    obtain ⟨ad7, lo, hi, v, rfl, had7, _, e0, e1, e2⟩ := hr8.span (k := 0) (by omega)
    have hcc : cntS ws ss 0 = 1 := rfl
    rw [hcc]
    rw [Nat.zero_mul, add_zero_] at e0 e1 e2
    clear hr8 hr7 hb7 had7 g0 g1 hcc
    go_wp2_with fail
    go_ret
    exact ⟨⟨_, rfl⟩, HL2.out⟩
end Go.Proofs.Ytnlmikefihaldaa
