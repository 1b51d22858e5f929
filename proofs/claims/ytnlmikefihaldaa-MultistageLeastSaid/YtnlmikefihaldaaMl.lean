/- multistage.Spans; the reference's SameSpans, Value. -/
import Derived.Test.YtnlmikefihaldaaMj
import Derived.Test.YtnlmikefihaldaaMs
namespace Go.Proofs.Ytnlmikefihaldaa
open Go.RowKit

theorem val_of_ownS {w : World} {base n size : Nat} {e : TypeId} {v : Value} {xs : List Value} (h : w.ownsRow base e size v n xs) : ∃ A c, v = .slice A n c ∧ n ≤ c ∧ Reads w w.heap.size size A n xs := by
  have h' := h
  obtain ⟨_, h2⟩ := h
  rcases h2 with ⟨rfl, rfl⟩ | ⟨g, cap, cur, rfl, _, _, hc, _⟩
  · exact ⟨none, 0, rfl, Nat.le_refl _, Reads.of_own h'⟩
  · exact ⟨_, cap, rfl, hc, Reads.of_own h'⟩
theorem own_belowS {base n size : Nat} {w w' : World} {e : TypeId} {v : Value} {xs : List Value} (h : w.ownsRow base e size v n xs) (hb : Below w.heap.size w w') : w'.ownsRow base e size v n xs := by
  obtain ⟨h1, h2⟩ := h
  refine ⟨h1, ?_⟩
  rcases h2 with h2 | ⟨g, cap, cur, rfl, a2, a3, a4⟩
  · exact .inl h2
  · exact .inr ⟨g, cap, cur, rfl, a2, (hb.block g (by
      rcases Nat.lt_or_ge g w.heap.size with hlt | hge
      · exact hlt
      · rw [Array.getElem?_eq_none hge] at a3; cases a3)).trans a3, a4⟩
/-- 'append(out, S{..})': one element of three cells, onto a row of the call's own -/
theorem wpList_app3 {P : Program} {ops : Array Oper} {rest : List Oper} {o : Oper} {a : Act} {Q : Exit → Act → World → Prop} (hgd : o.guard = none) (s x : Operand) (t : TypeId)
    (ho : o.op = .call { callee := .builtin .append, args := #[s, x], argTypes := #[t, t] })
    {base : Nat} {e : TypeId} {i : TypeInfo} {z : Value} {bytes size : Nat} (ht : P.underlying t = some (.slice e)) (hi : P.info? e = some i) (hz : i.zero = some z)
    (hsize : i.size = size) (hby : i.bytes = bytes) (hzs : z.cells.size = size) (hs0 : 0 < size) (hb24 : bytes ≤ 24)
    (w0 : World) (v : Value) (n : Nat) (xs : List Value) (hs : a.eval s = v) (hown : w0.ownsRow base e size v n xs)
    (cs : Array Value) (hcs : cs.size = size) (hx : a.eval x = .slice (some ⟨w0.heap.size, 0, none⟩) 1 1) (hu : ∀ u ∈ cs.toList, u.oneCell' = true)
    (hn : n ≤ 1000000000000) (hbase : base ≤ w0.heap.size)
    (h : ∀ v' w', w'.ownsRow base e size v' (n + 1) (xs ++ cs.toList) → Below base w0 w' → w0.grownBy w' v.ownBlock → (v'.ownBlock = v.ownBlock ∨ v'.ownBlock = some (w0.heap.size + 1)) → wpList P ops Q rest (a.put o.dst v') w') :
    wpList P ops Q (o :: rest) a (w0.alloc (.cells cs e)) := by
  have hmul : (n + 1) * bytes ≤ 140737488355328 := Nat.le_trans (Nat.mul_le_mul (show n + 1 ≤ 1000000000001 by omega) hb24) (by omega)
  refine wpList_append_own_at _ hgd s x t ho base e i z size bytes ht hi hz hsize hby hzs hs0 v n xs hs (hown.alloc _) ⟨w0.heap.size, 0, none⟩ 1 1 cs.toList hx (by simp [hcs]) (fun j u hj => ?_)
    hu (by unfold maxLen; omega) hmul (by simp; omega) ?_
  · have e1 : (⟨w0.heap.size, 0, none⟩ : Addr).add j = ⟨w0.heap.size, j, none⟩ := by unfold Addr.add; split <;> simp_all
    rw [e1, (Blk.new w0 e cs).cell, ← Array.getElem?_toList]; exact hj
  · intro v' w' h1 h2 _ h4
    exact h v' w' h1 (((Below.refl _ _).alloc hbase _).grown h2 (by simp; omega) (fun g eg => (hown.lt g eg).1)) (grownBy_alloc_left h2) (by simpa using h4)
theorem Try.infoT48 : (Try.prog.info? 48).map (fun i => (i.zero, i.size, i.bytes)) = some (some (.agg #[.int .i64 0, .int .i64 0, .int .i64 0]), 3, 24) := by kernel_rfl
theorem list_snoc {α : Type} (l : List α) : l = [] ∨ ∃ l0 x, l = l0 ++ [x] := by
  rcases List.eq_nil_or_concat l with h | ⟨a, b, h⟩
  · exact .inl h
  · exact .inr ⟨a, b, by rw [h]; try rw [List.concat_eq_append]⟩

/-- what Spans hands back -/
def SpnE (ws : List Int) (ss : List (List Int)) (e : Ending) (w' : World) : Prop := ∃ A n c l, e = .returned (.slice A n c) ∧ Reads w' w'.heap.size 3 A n (l.flatMap spv) ∧ n ≤ c ∧ n ≤ 1114112 ∧ (okT ws ss → SInv (look ws ss) l 1114112) ∧ (¬ okT ws ss → l = [])
/-- the spans while they are made -/
structure SpL (ws : List Int) (ss : List (List Int)) (B k : Nat) (l : List (Int × Int × Int)) (v : Value) (w : World) : Prop where
  inv : SInv (look ws ss) l k
  len : l.length ≤ k
  own : w.ownsRow B 48 3 v l.length (l.flatMap spv)
theorem spv_snoc (l : List (Int × Int × Int)) (x : Int × Int × Int) : (l ++ [x]).flatMap spv = l.flatMap spv ++ [.int .i64 x.1, .int .i64 x.2.1, .int .i64 x.2.2] := by simp [spv]
theorem spl_skip {ws : List Int} {ss : List (List Int)} {B k : Nat} {l : List (Int × Int × Int)} {v : Value} {w w' : World} (h : SpL ws ss B k l v w) (hb : Below w.heap.size w w') (hf : look ws ss k = 0) : SpL ws ss B (k + 1) l v w' :=
  ⟨sinv_skip h.inv fun t h1 h2 => by rw [show t = k by omega]; exact hf, by have := h.len; omega, own_belowS h.own hb⟩
theorem spl_new {ws : List Int} {ss : List (List Int)} {B k : Nat} {l : List (Int × Int × Int)} {v v' : Value} {w w' : World} {x : Int} (h : SpL ws ss B k l v w) (hk : k < 1114112) (hf : look ws ss k = x) (hx : x ≠ 0) (hl : ∀ y, l[l.length - 1]? = some y → ¬ ((k : Int) = y.2.1 + 1 ∧ x = y.2.2))
    (ho : w'.ownsRow B 48 3 v' (l.length + 1) (l.flatMap spv ++ [.int .i64 (k : Int), .int .i64 (k : Int), .int .i64 x])) : SpL ws ss B (k + 1) (l ++ [((k : Int), (k : Int), x)]) v' w' :=
  ⟨sinv_new h.inv (n := 1) (by omega) (by omega) hx (fun t h1 h2 => by rw [show t = k by omega]; exact hf) (by omega) hl, by have := h.len; simp; omega, by rw [spv_snoc, List.length_append]; exact ho⟩
theorem spl_more {ws : List Int} {ss : List (List Int)} {B k g cap : Nat} {l : List (Int × Int × Int)} {lo hi x : Int} {w w' : World} (h : SpL ws ss B k (l ++ [(lo, hi, x)]) (.slice (some ⟨g, 0, none⟩) (l ++ [(lo, hi, x)]).length cap) w) (hb : Below w.heap.size w w') (hk : k < 1114112) (hf : look ws ss k = x) (hh : hi + 1 = (k : Int)) :
    SpL ws ss B (k + 1) (l ++ [(lo, (k : Int), x)]) (.slice (some ⟨g, 0, none⟩) (l ++ [(lo, hi, x)]).length cap) (w'.setCell ⟨g, l.length * 3 + 1, none⟩ (.int .i64 (k : Int))) := by
  refine ⟨sinv_more h.inv (n := 1) (by omega) (by omega) hh (fun t h1 h2 => by rw [show t = k by omega]; exact hf) (by omega), by have := h.len; simp at this ⊢; omega, ?_⟩
  have ho := ((own_belowS h.own hb).stored (l.length * 3 + 1) (.int .i64 (k : Int))).1
  have e : ((l ++ [(lo, hi, x)]).flatMap spv).set (l.length * 3 + 1) (.int .i64 (k : Int)) = (l ++ [(lo, (k : Int), x)]).flatMap spv := by
    rw [spv_snoc, spv_snoc, List.set_append_right _ _ (by rw [spv_len]; omega), spv_len, show l.length * 3 + 1 - l.length * 3 = 1 by omega]
    rfl
  rw [e] at ho
  have e2 : (l ++ [(lo, hi, x)]).length = (l ++ [(lo, (k : Int), x)]).length := by simp
  rw [e2] at ho ⊢
  exact ho

set_option maxRecDepth 100000 in
set_option maxHeartbeats 4000000 in
theorem spans_any (A A' : Option Addr) (n c n' c' : Nat) (ws : List Int) (ss : List (List Int)) (w : World) (h : Tab w w.heap.size A n c A' n' c' ws ss) (hn : n ≤ 1000000000) (hn' : n' ≤ 1000000000) (hs : ∀ i, (stg ss i).length ≤ 1000000000) (hw : ∀ i, ∀ x ∈ stg ss i, W64 x) :
    Calls Try.prog 28 #[.agg #[.slice A n c, .slice A' n' c']] w fun e w' => SpnE ws ss e w' ∧ Below w.heap.size w w' := by
  have hL : Below w.heap.size w (w.alloc (.cells #[.slice A n c, .slice A' n' c'] 28)) := (Below.refl _ w).alloc (Nat.le_refl _) _
  have HB := Lib.hid (Blk.new w 28 #[.slice A n c, .slice A' n' c'])
  have HT := Lib.hid ((h.below hL).more hL.size)
  have Hs := Lib.hid hs
  have Hw := Lib.hid hw
  clear hs hw h
  have g0 := HB.out.cell 0
  have g1 := HB.out.cell 1
  go_enter Try.func28, Try.ntmps28
  go_wp2_with fail
  obtain ⟨W, hW⟩ : ∃ W, W = w.alloc (.cells #[.slice A n c, .slice A' n' c'] 28) := ⟨_, rfl⟩
  rw [← hW] at HB HT hL g0 g1 ⊢
  clear hW
  have HL := Lib.hid hL
  clear hL
  refine (validT_any A A' n c n' c' ws ss W HT.out hn hn' Hs.out Hw.out).mono ?_
  rintro e w1 ⟨⟨r, rfl, hr⟩, hb1⟩
  have HL1 := Lib.hid (HL.out.trans (hb1.mono HL.out.size))
  have HT1 := Lib.hid ((HT.out.below hb1).more hb1.size)
  have HB1 := Lib.hid (HB.out.stay hb1)
  have Hr := Lib.hid hr
  clear hb1 g0 g1 hr
  cases r with
  | false =>
    have Hno := Lib.hid (show ¬ okT ws ss from fun ho => by have := Hr.out.2 ho; cases this)
    clear Hr
    go_wp2
    go_ret
    exact ⟨⟨none, 0, 0, [], rfl, Reads.none_, by omega, by omega, fun h => absurd h Hno.out, fun _ => rfl⟩, HL1.out⟩
  | true =>
    have Hyes := Lib.hid (Hr.out.1 rfl)
    clear Hr
    go_wp2
    go_loopw [3, 10] (fun s3 s10 wr => ∃ (k : Nat) (l : List (Int × Int × Int)), k ≤ 1114112 ∧ s10 = .int .i64 (k : Int) ∧ Hid (SpL ws ss w1.heap.size k l s3 wr) ∧ Hid (Below w1.heap.size w1 wr)) (fun _ s10 _ => 1114112 - (intOf s10).toNat)
    case atStart => exact ⟨0, [], by omega, rfl, Lib.hid ⟨sinv_zero _, by simp, World.ownsRow_nil _ _ _ _⟩, Lib.hid (Below.refl _ _)⟩
    case round =>
      obtain ⟨k, l, hk, rfl, HS, Hb⟩ := hrel
      have HTk := Lib.hid ((HT1.out.below Hb.out).more Hb.out.size)
      have HBk := Lib.hid (HB1.out.below Hb.out HB1.out.lt)
      have g0 := HBk.out.cell 0
      have g1 := HBk.out.cell 1
      by_cases hlt : k < 1114112
      · have hki : (k : Int) < 1114112 := by omega
        go_wp2_with fail
        refine (value_any A A' n c n' c' ws ss k wr HTk.out Hyes.out Hs.out hlt).mono ?_
        rintro e w2 ⟨rfl, hb2⟩
        have Hb2 := Lib.hid (Hb.out.trans (hb2.mono Hb.out.size))
        obtain ⟨x, hx⟩ : ∃ x, look ws ss k = x := ⟨_, rfl⟩
        rw [hx]
        have Hx := Lib.hid hx
        have Hb2' := Lib.hid hb2
        clear hx hb2 g0 g1
        by_cases hx0 : x = 0
        · subst hx0
          have HS2 := Lib.hid (spl_skip HS.out Hb2'.out Hx.out)
          go_wp2
          go_roundw
          case rel => exact ⟨k + 1, l, by omega, by go_num, HS2, Hb2⟩
          case measure => simp [intOf]; omega
        · have hx0b : (x == 0) = false := by simpa using hx0
          obtain ⟨i0, hi, hz0, hz1, hz2⟩ := info_parts Try.infoT48
          have hlen : l.length ≤ 1114112 := Nat.le_trans HS.out.len hk
          have ho2 := own_belowS HS.out.own Hb2'.out
          have hb2s := Hb2.out.size
          rcases list_snoc l with hl0 | ⟨l0, y, hl0⟩
          · subst hl0
            obtain ⟨A3, c3, hv3, _, _⟩ := val_of_ownS HS.out.own
            subst hv3
            have hnl := Lib.hid (show ∀ y, ([] : List (Int × Int × Int))[([] : List (Int × Int × Int)).length - 1]? = some y → ¬ ((k : Int) = y.2.1 + 1 ∧ x = y.2.2) from fun y hy => by simp at hy)
            have HO2 := Lib.hid ho2
            have Hx0 := Lib.hid hx0
            clear ho2 hx0
            go_wp2_with (at_builtin; refine wpList_app3 rfl (.tmp 49) (.tmp 54) 22 rfl Try.underlying22 hi hz0 hz1 hz2 rfl (by omega) (by omega) w2 _ _ _ rfl HO2.out #[.int .i64 (k : Int), .int .i64 (k : Int), .int .i64 x] rfl rfl (by intro u hu; simp at hu; rcases hu with rfl | rfl <;> rfl) (by omega) hb2s ?_; intro v6 w6 ho6 hb6 hg6 _)
            exact ⟨⟨k + 1, _, by omega, by go_num, Lib.hid (spl_new HS.out hlt Hx.out Hx0.out hnl.out ho6), Lib.hid (Hb2.out.trans hb6)⟩, by simp [intOf]; omega⟩
          · subst hl0
            obtain ⟨lo, hy, vy⟩ := y
            obtain ⟨g, c3, hv3, _, _⟩ := HS.out.own.form (by simp)
            subst hv3
            have hlast : (l0 ++ [(lo, hy, vy)])[(l0 ++ [(lo, hy, vy)]).length - 1]? = some (lo, hy, vy) := by simp
            have hyk := HS.out.inv.hi (lo, hy, vy) (by simp)
            have hok1 := HS.out.inv.ok.1 _ _ hlast
            unfold okS1 at hok1
            simp only at hyk hok1
            have hyr : 0 ≤ hy ∧ hy ≤ 1114111 := by omega
            obtain ⟨hy0, hy1⟩ := hyr
            have ho2' := ho2
            have q1 : w2.cell? ⟨g, l0.length * 3 + 1, none⟩ = some (.int .i64 hy) := by
              rw [ho2.cellAt _ (by simp; omega), spv_snoc, List.getElem?_append_right (by rw [spv_len]; omega), spv_len, show l0.length * 3 + 1 - l0.length * 3 = 1 by omega]; rfl
            have q2 : w2.cell? ⟨g, l0.length * 3 + 2, none⟩ = some (.int .i64 vy) := by
              rw [ho2.cellAt _ (by simp; omega), spv_snoc, List.getElem?_append_right (by rw [spv_len]; omega), spv_len, show l0.length * 3 + 2 - l0.length * 3 = 2 by omega]; rfl
            have q3 := ho2.frozenAt (l0.length * 3 + 1)
            obtain ⟨N, hN⟩ : ∃ N, N = (l0 ++ [(lo, hy, vy)]).length := ⟨_, rfl⟩
            obtain ⟨M, hM⟩ : ∃ M, M = l0.length := ⟨_, rfl⟩
            have hNM : N = M + 1 := by rw [hN, hM]; simp
            have HO2 := Lib.hid ho2
            have HNM := Lib.hid (And.intro hN hM)
            rw [← hN] at hlen ⊢
            rw [← hM] at q1 q2 q3
            subst hNM
            clear hN hM ho2 ho2' hok1
            by_cases qa : hy + 1 = (k : Int)
            · by_cases qb : vy = x
              · subst qb
                go_wp2
                have HN := Lib.hid (spl_more HS.out Hb2'.out hlt Hx.out qa)
                rw [← HNM.out.1, ← HNM.out.2] at HN
                exact ⟨⟨k + 1, _, by omega, by go_num, HN, Lib.hid (Hb2.out.setCell (by assumption) _)⟩, by simp [intOf]; omega⟩
              · have qbb : (vy == x) = false := by simpa using qb
                have hnl := Lib.hid (show ∀ y, (l0 ++ [(lo, hy, vy)])[(l0 ++ [(lo, hy, vy)]).length - 1]? = some y → ¬ ((k : Int) = y.2.1 + 1 ∧ x = y.2.2) from fun y hy => by rw [hlast] at hy; injection hy with hy; subst hy; exact fun h => qb h.2.symm)
                have Hx0 := Lib.hid hx0
                have hNN := HNM.out.1
                rw [← hNN] at HO2
                clear hlast q3 hx0 qb hNN
                go_wp2_with (at_builtin; refine wpList_app3 rfl (.tmp 49) (.tmp 54) 22 rfl Try.underlying22 hi hz0 hz1 hz2 rfl (by omega) (by omega) w2 _ _ _ rfl HO2.out #[.int .i64 (k : Int), .int .i64 (k : Int), .int .i64 x] rfl rfl (by intro u hu; simp at hu; rcases hu with rfl | rfl <;> rfl) (by omega) hb2s ?_; intro v6 w6 ho6 hb6 hg6 _)
                rw [HNM.out.1] at ho6
                exact ⟨⟨k + 1, _, by omega, by go_num, Lib.hid (spl_new HS.out hlt Hx.out Hx0.out hnl.out ho6), Lib.hid (Hb2.out.trans hb6)⟩, by simp [intOf]; omega⟩
            · have qab : (hy + 1 == (k : Int)) = false := by simpa using qa
              have hnl := Lib.hid (show ∀ y, (l0 ++ [(lo, hy, vy)])[(l0 ++ [(lo, hy, vy)]).length - 1]? = some y → ¬ ((k : Int) = y.2.1 + 1 ∧ x = y.2.2) from fun y hy => by rw [hlast] at hy; injection hy with hy; subst hy; exact fun h => qa h.1.symm)
              have Hx0 := Lib.hid hx0
              have hNN := HNM.out.1
              rw [← hNN] at HO2
              clear hlast q3 hx0 qa hNN
              go_wp2_with (at_builtin; refine wpList_app3 rfl (.tmp 49) (.tmp 54) 22 rfl Try.underlying22 hi hz0 hz1 hz2 rfl (by omega) (by omega) w2 _ _ _ rfl HO2.out #[.int .i64 (k : Int), .int .i64 (k : Int), .int .i64 x] rfl rfl (by intro u hu; simp at hu; rcases hu with rfl | rfl <;> rfl) (by omega) hb2s ?_; intro v6 w6 ho6 hb6 hg6 _)
              rw [HNM.out.1] at ho6
              exact ⟨⟨k + 1, _, by omega, by go_num, Lib.hid (spl_new HS.out hlt Hx.out Hx0.out hnl.out ho6), Lib.hid (Hb2.out.trans hb6)⟩, by simp [intOf]; omega⟩
      · have hkn : k = 1114112 := by omega
        subst hkn
        obtain ⟨A3, c3, rfl, hc3, hr3⟩ := val_of_ownS HS.out.own
        have HE := Lib.hid (show SpnE ws ss (.returned (.slice A3 l.length c3)) wr from ⟨A3, _, c3, l, rfl, hr3, hc3, HS.out.len, fun _ => HS.out.inv, fun h => absurd Hyes.out h⟩)
        have HBE := Lib.hid (HL1.out.trans (Hb.out.mono HL1.out.size))
        clear hr3 g0 g1
        go_wp2
        go_ret
        exact ⟨HE.out, HBE.out⟩

set_option maxRecDepth 100000 in
set_option maxHeartbeats 2000000 in
theorem rvalue_any (A : Option Addr) (n c : Nat) (l : List (Int × Int × Int)) (x : Int) (w : World) (hr : Reads w w.heap.size 3 A n (l.flatMap spv)) (hn : n ≤ 2000000) :
    Calls Try.prog 26 #[.slice A n c, .int .i64 x] w fun e w' => e = .returned (.int .i64 (valF l x)) ∧ w' = w := by
  have hl : l.length = n := by have := hr.1; rw [spv_len] at this; omega
  have Hl := Lib.hid hl
  clear hl
  go_enter Try.func26, Try.ntmps26
  go_wp2
  go_loop [5] (fun s5 => ∃ k : Nat, k ≤ n ∧ s5 = .int .i64 (k : Int) ∧ Hid (valF l x = valF (l.drop k) x)) (fun s5 => n - (intOf s5).toNat)
  case atStart => exact ⟨0, by omega, rfl, Lib.hid (by rw [List.drop_zero])⟩
  case round =>
    obtain ⟨k, hk, rfl, Hk⟩ := hrel
    by_cases hlt : k < n
    · obtain ⟨ad, lo, hi, v, rfl, hadb, hxl, c0, c1, c2⟩ := hr.span hlt
      have hki : (k : Int) < (n : Int) := by omega
      obtain ⟨hkl, he⟩ := List.getElem?_eq_some_iff.1 hxl
      have hd : valF (l.drop k) x = if lo ≤ x ∧ x ≤ hi then v else valF (l.drop (k + 1)) x := by
        rw [List.drop_eq_getElem_cons hkl, he, valF]
      have Hd := Lib.hid hd
      clear hd hxl he
      by_cases q1 : lo ≤ x
      · by_cases q2 : x ≤ hi
        · have He := Lib.hid (show valF l x = v by rw [Hk.out, Hd.out, if_pos ⟨q1, q2⟩])
          go_wp2
          go_ret
          exact ⟨by rw [He.out]; rfl, rfl⟩
        · have He := Lib.hid (show valF l x = valF (l.drop (k + 1)) x by rw [Hk.out, Hd.out, if_neg (fun h => q2 h.2)])
          go_wp2
          go_round
          case rel => exact ⟨k + 1, by omega, by go_num, He⟩
          case measure => simp [intOf]; omega
      · have He := Lib.hid (show valF l x = valF (l.drop (k + 1)) x by rw [Hk.out, Hd.out, if_neg (fun h => q1 h.1)])
        go_wp2
        go_round
        case rel => exact ⟨k + 1, by omega, by go_num, He⟩
        case measure => simp [intOf]; omega
    · have He := Lib.hid (show valF l x = 0 by rw [Hk.out, List.drop_of_length_le (by have := Hl.out; omega)]; rfl)
      have hki : ¬ (k : Int) < (n : Int) := by omega
      go_wp2
      go_ret
      exact ⟨by rw [He.out]; rfl, rfl⟩

set_option maxRecDepth 100000 in
set_option maxHeartbeats 2000000 in
theorem sameSpans_any (A A' : Option Addr) (n c n' c' : Nat) (l : List (Int × Int × Int)) (w : World) (hr : Reads w w.heap.size 3 A n (l.flatMap spv)) (hr' : Reads w w.heap.size 3 A' n' (l.flatMap spv)) (hn : n ≤ 1000000000) :
    Calls Try.prog 27 #[.slice A n c, .slice A' n' c'] w fun e w' => e = .returned (.bool true) ∧ ∃ q, w' = w.drewN q := by
  have hl : l.length = n := by have := hr.1; rw [spv_len] at this; omega
  have hl' : n = n' := by have := hr'.1; rw [spv_len] at this; omega
  subst hl'
  have Hl := Lib.hid hl
  clear hl
  go_enter Try.func27, Try.ntmps27
  go_wp2
  go_loopw [5] (fun s5 wr => ∃ k q : Nat, k ≤ n ∧ s5 = .int .i64 (k : Int) ∧ wr = w.drewN q) (fun s5 _ => n - (intOf s5).toNat)
  case atStart => exact ⟨0, 0, by omega, rfl, rfl⟩
  case round =>
    obtain ⟨k, q, hk, rfl, rfl⟩ := hrel
    by_cases hlt : k < n
    · obtain ⟨ad, lo, hi, v, rfl, hadb, hxl, c0, c1, c2⟩ := hr.span hlt
      obtain ⟨ad', lo', hi', v', rfl, hadb', hxl', c0', c1', c2'⟩ := hr'.span hlt
      rw [hxl] at hxl'
      injection hxl' with hxl'
      simp only [Prod.mk.injEq] at hxl'
      obtain ⟨rfl, rfl, rfl⟩ := hxl'
      have hki : (k : Int) < (n : Int) := by omega
      clear hxl
      go_wp2_with fail
      go_quiet (fail)
      go_wp2
      go_roundw
      case rel => exact ⟨k + 1, _, by omega, by go_num, rfl⟩
      case measure => simp [intOf]; omega
    · have hki : ¬ (k : Int) < (n : Int) := by omega
      go_wp2
      go_ret
      exact ⟨rfl, _, rfl⟩

set_option maxRecDepth 100000 in
theorem few_any (A A' : Option Addr) (n c n' c' : Nat) (w : World) :
    Calls Try.prog 10 #[.slice A n c, .slice A' n' c'] w fun e w' => e = .returned (.bool (decide (n ≤ 40 ∧ n' ≤ 6))) ∧ w' = w := by
  by_cases q1 : n ≤ 40
  · by_cases q2 : n' ≤ 6
    · have q1d : (n : Int) ≤ 40 := by omega
      have q2d : (n' : Int) ≤ 6 := by omega
      rw [decide_eq_true (And.intro q1 q2)]
      go_enter Try.func10, Try.ntmps10
      go_wp2
      go_ret
      exact ⟨rfl, rfl⟩
    · have q1d : (n : Int) ≤ 40 := by omega
      have q2d : decide ((n' : Int) ≤ 6) = false := decide_eq_false (by omega)
      rw [decide_eq_false (fun h : n ≤ 40 ∧ n' ≤ 6 => q2 h.2)]
      clear q2
      go_enter Try.func10, Try.ntmps10
      go_wp2
      go_ret
      exact ⟨rfl, rfl⟩
  · have q1d : decide ((n : Int) ≤ 40) = false := decide_eq_false (by omega)
    rw [decide_eq_false (fun h : n ≤ 40 ∧ n' ≤ 6 => q1 h.1)]
    clear q1
    go_enter Try.func10, Try.ntmps10
    go_wp2
    go_ret
    exact ⟨rfl, rfl⟩
end Go.Proofs.Ytnlmikefihaldaa
