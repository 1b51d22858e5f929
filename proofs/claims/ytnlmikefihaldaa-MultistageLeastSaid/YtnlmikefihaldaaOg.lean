/- The reference's Values and Spans. -/
import Derived.Test.YtnlmikefihaldaaOf
namespace Go.Proofs.Ytnlmikefihaldaa
open Go.RowKit

theorem exL_at {r : List (Int × Int)} {i : Nat} {y : Int × Int} (h : r[i]? = some y) {t : Nat} (h1 : (exL (r.take i)).length ≤ t) (h2 : t < (exL (r.take i)).length + y.1.toNat) : (exL r)[t]? = some y.2 := by
  obtain ⟨hi, rfl⟩ := List.getElem?_eq_some_iff.1 h
  have e : r.take i ++ ([r[i]] ++ r.drop (i + 1)) = r := by rw [List.singleton_append, ← List.drop_eq_getElem_cons hi, List.take_append_drop]
  have e2 : exL r = exL (r.take i) ++ (List.replicate r[i].1.toNat r[i].2 ++ exL (r.drop (i + 1))) := by
    rw [← exL_one, ← exL_append, ← exL_append, e]
  rw [e2, List.getElem?_append_right h1, List.getElem?_append_left (by rw [List.length_replicate]; omega), List.getElem?_replicate, if_pos (by omega)]
theorem exL_take_succ {r : List (Int × Int)} {i : Nat} {y : Int × Int} (h : r[i]? = some y) : (exL (r.take (i + 1))).length = (exL (r.take i)).length + y.1.toNat := by
  rw [List.take_add_one, h, exL_append, List.length_append]
  show _ + (exL [y]).length = _
  rw [exL_one, List.length_replicate]
/-- the spans while they are made of the runs -/
structure VInv (f : Nat → Int) (r : List (Int × Int)) (l : List (Int × Int × Int)) (i c : Nat) : Prop where
  at_ : c = (exL (r.take i)).length
  inv : SInv f l c
  len : l.length ≤ i
  adj : ∀ y, l[l.length - 1]? = some y → (c : Int) = y.2.1 + 1 → ∃ j z, i = j + 1 ∧ r[j]? = some z ∧ z.2 = y.2.2
theorem vinv_zero (f : Nat → Int) (r : List (Int × Int)) : VInv f r [] 0 0 := ⟨by simp [exL], sinv_zero f, by simp, fun y h => by simp at h⟩
theorem vinv_val {f : Nat → Int} {r : List (Int × Int)} (hr : RunsOf r f 1114112) {i c : Nat} {N V : Int} (hy : r[i]? = some (N, V)) (hc : c = (exL (r.take i)).length) : c + N.toNat ≤ 1114112 ∧ ∀ t, c ≤ t → t < c + N.toNat → f t = V := by
  have hle : c + N.toNat ≤ 1114112 := by
    have h1 := exL_take_succ hy
    have h2 := exL_take (r := r) (i + 1)
    have h3 := hr.len
    simp only at h1
    omega
  refine ⟨hle, fun t h1 h2 => ?_⟩
  have h3 := exL_at hy (t := t) (by omega) (by simp only; omega)
  rw [hr.2, List.getElem?_map, List.getElem?_range (by omega)] at h3
  simpa using h3
theorem vinv_skip {f : Nat → Int} {r : List (Int × Int)} {l : List (Int × Int × Int)} {i c : Nat} (hr : RunsOf r f 1114112) (h : VInv f r l i c) {N V : Int} (hy : r[i]? = some (N, V)) (hV : V = 0) : VInv f r l (i + 1) (c + N.toNat) := by
  obtain ⟨h1, h2⟩ := vinv_val hr hy h.at_
  have hN := hr.1.pos _ (List.mem_of_getElem? hy)
  simp only at hN
  refine ⟨by rw [exL_take_succ hy, ← h.at_], sinv_skip h.inv (fun t a b => (h2 t a b).trans hV), by have := h.len; omega, fun y q1 q2 => ?_⟩
  have := h.inv.hi y (List.mem_of_getElem? q1)
  omega
theorem vinv_new {f : Nat → Int} {r : List (Int × Int)} {l : List (Int × Int × Int)} {i c : Nat} (hr : RunsOf r f 1114112) (h : VInv f r l i c) {N V : Int} (hy : r[i]? = some (N, V)) (hV : V ≠ 0) : VInv f r (l ++ [((c : Int), (c : Int) + N - 1, V)]) (i + 1) (c + N.toNat) := by
  obtain ⟨h1, h2⟩ := vinv_val hr hy h.at_
  have hN := hr.1.pos _ (List.mem_of_getElem? hy)
  simp only at hN
  refine ⟨by rw [exL_take_succ hy, ← h.at_], sinv_new h.inv (by omega) h1 hV h2 (by omega) (fun y q1 q2 => ?_), by have := h.len; simp; omega, fun y q1 q2 => ?_⟩
  · obtain ⟨j, z, rfl, hz, hzy⟩ := h.adj y q1 q2.1
    exact hr.1.apart j z _ hz hy (hzy.trans q2.2.symm)
  · simp at q1
    subst q1
    exact ⟨i, _, rfl, hy, rfl⟩
theorem step_append_ownS {P : Program} {ops : Array Oper} {o : Oper} {a : Act} {w : World} {K : Act → World → Prop} {Q : Exit → Act → World → Prop} {E : Prop}
    (hg : o.guard = none) (s x : Operand) (t : TypeId) (hop : o.op = Op.call { callee := Callee.builtin Builtin.append, args := #[s, x], argTypes := #[t, t] })
    {base size : Nat} {e : TypeId} {i : TypeInfo} {z : Value} {bytes : Nat} (ht : P.underlying t = some (.slice e)) (hi : P.info? e = some i) (hz : i.zero = some z) (hsize : i.size = size) (hby : i.bytes = bytes) (hzs : z.cells.size = size) (hs0 : 0 < size) (hb24 : bytes ≤ 24)
    (v : Value) (n : Nat) (xs : List Value) (hs : a.eval s = v) (hown : w.ownsRow base e size v n xs)
    {B : Nat} {A : Option Addr} (m c : Nat) (hm : 0 < m) (news : List Value) (hx : a.eval x = .slice A m c) (hr : Reads w B size A m news) (hu : ∀ u ∈ news, u.oneCell' = true) (hn : n + m ≤ 1000000000000) (hbase : base ≤ w.heap.size)
    (hK : ∀ v' w', w'.ownsRow base e size v' (n + m) (xs ++ news) → w.grownBy w' v.ownBlock → (v'.ownBlock = v.ownBlock ∨ v'.ownBlock = some w.heap.size) → K (a.put o.dst v') w') :
    if Region.wanted o (yielded ops a.tmps) = true then Oper.wp P o a w K Q else E := by
  have hw : Region.wanted o (yielded ops a.tmps) = true := by simp [Region.wanted, hg]
  rw [if_pos hw]
  have hmul : (n + m) * bytes ≤ 140737488355328 := Nat.le_trans (Nat.mul_le_mul hn hb24) (by omega)
  obtain ⟨ad, rfl, _, hc⟩ := hr.2 hm
  obtain ⟨v', w', hrun, h2, h3, h4, h5⟩ := run_append_own_at (P := P) w base t o.type e i z size bytes ht hi hz hsize hby hzs hs0 v n xs hown ad m c news hr.1 hc hu (by unfold maxLen; omega) hmul hbase
  unfold Oper.wp
  simp [execOp, hop, resolve, invoke, builtin, hs, hx, hrun, Result.andThen]
  exact hK v' w' h2 h3 h5
theorem add_off_ (b t : Nat) : (⟨b, 0, none⟩ : Addr).add t = ⟨b, t, none⟩ := by unfold Addr.add; split <;> simp_all
def ValE (ws : List Int) (ss : List (List Int)) (e : Ending) (w' : World) : Prop := ∃ A n c l, e = .returned (.slice A n c) ∧ Reads w' w'.heap.size 3 A n (l.flatMap spv) ∧ n ≤ c ∧ n ≤ 1114112 ∧ SInv (look ws ss) l 1114112

set_option maxRecDepth 100000 in
set_option maxHeartbeats 8000000 in
theorem values_any (A A' : Option Addr) (n c n' c' : Nat) (ws : List Int) (ss : List (List Int)) (hf : formedT ws ss) (hl : ∀ i, (stg ss i).length ≤ 12000) (w : World) (h : Tab w w.heap.size A n c A' n' c' ws ss) :
    Calls Try.prog 25 #[.agg #[.slice A n c, .slice A' n' c']] w fun e w' => ValE ws ss e w' ∧ Below w.heap.size w w' := by
  have hL : Below w.heap.size w (w.alloc (.cells #[.slice A n c, .slice A' n' c'] 28)) := (Below.refl _ w).alloc (Nat.le_refl _) _
  have HB := Lib.hid (Blk.new w 28 #[.slice A n c, .slice A' n' c'])
  have hT := (h.below hL).more hL.size
  have HI := Lib.hid (runs_any A A' n c n' c' ws ss hf hl ws.length 0 (by omega) _ hT)
  have HL := Lib.hid hL
  clear h hL hl hT hf
  have g0 := HB.out.cell 0
  have g1 := HB.out.cell 1
  go_enter Try.func25, Try.ntmps25
  go_wp2_with fail
  obtain ⟨W, hW⟩ : ∃ W, W = w.alloc (.cells #[.slice A n c, .slice A' n' c'] 28) := ⟨_, rfl⟩
  rw [← hW] at HB HI HL g0 g1 ⊢
  clear hW
  refine HI.out.mono ?_
  rintro e w5 ⟨⟨A5, c5, vs, rs, rfl, hR⟩, hb5⟩
  have hcc : cntS ws ss 0 = 1 := rfl
  rw [hcc] at hR ⊢
  have HL5 := Lib.hid (HL.out.trans (hb5.mono HL.out.size))
  obtain ⟨a5, u5, rfl, ha5, hu5, hcu5⟩ := hR.reads.at_ (k := 0) (by omega)
  have hrl : 0 < rs.length := by rw [hR.len]; omega
  obtain ⟨v5, hv5, A6, c6, rfl, hr6⟩ := hR.rows 0 _ (List.getElem?_eq_getElem hrl)
  rw [hv5] at hu5
  injection hu5 with hu5
  subst hu5
  have hs6 := hR.says 0 _ (List.getElem?_eq_getElem hrl) rfl
  obtain ⟨r, hr⟩ : ∃ r, r = rs[0] := ⟨_, rfl⟩
  rw [← hr] at hr6 hs6 hcu5
  rw [add_zero_] at hcu5
  have hs7 : RunsOf r (look ws ss) 1114112 := hs6
  obtain ⟨m, hm⟩ : ∃ m, m = r.length := ⟨_, rfl⟩
  rw [← hm] at hr6 hcu5
  have hmb : m ≤ 1114112 := by rw [hm, ← hs7.len]; exact exL_len hs7.1.pos
  have Hr6 := Lib.hid hr6
  have Hs := Lib.hid hs7
  have Hm := Lib.hid hm
  obtain ⟨B, hB⟩ : ∃ B, B = w5.heap.size := ⟨_, rfl⟩
  have HBz := Lib.hid hB
  clear hr6 hs6 hs7 hm hB g0 g1 hb5 hR hrl hv5 hr HI hcc
  go_wp2_with fail
  go_loopw [3, 5, 6] (fun s3 s5 s6 wx => ∃ i at_ : Nat, ∃ l, i ≤ m ∧ s6 = .int .i64 (i : Int) ∧ s5 = .int .i64 (at_ : Int) ∧ Hid (VInv (look ws ss) r l i at_) ∧ Hid (wx.ownsRow B 48 3 s3 l.length (l.flatMap spv)) ∧ Hid (Below B w5 wx)) (fun _ _ s6 _ => m - (intOf s6).toNat)
  case atStart => exact ⟨0, 0, [], by omega, rfl, rfl, Lib.hid (vinv_zero _ _), Lib.hid (World.ownsRow_nil _ _ _ _), Lib.hid (by rw [HBz.out]; exact Below.refl _ _)⟩
  case round =>
    obtain ⟨i, at_, l, hi, rfl, rfl, HV, HO, HBx⟩ := hrel
    have hbx := HBx.out
    rw [HBz.out] at hbx
    by_cases hlt : i < m
    · have hii : (i : Int) < (m : Int) := by omega
      obtain ⟨ad, N, V, rfl, hadb, hy, q0, q1⟩ := (Hr6.out.below hbx).pair hlt
      have hN := Hs.out.1.pos _ (List.mem_of_getElem? hy)
      simp only at hN
      have hNb := (vinv_val Hs.out hy HV.out.at_).1
      have Hy := Lib.hid hy
      have hadr : ad.block < wr.heap.size := Nat.lt_of_lt_of_le hadb hbx.size
      have hwn : IntKind.i64.wrap ((at_ : Int) + N) = (at_ : Int) + N := IntWalk.i64_in _ (by omega)
      have hwz : IntKind.i64.wrap ((at_ : Int) + N - 1) = (at_ : Int) + N - 1 := IntWalk.i64_in _ (by omega)
      have hcast : (at_ : Int) + N = ((at_ + N.toNat : Nat) : Int) := by omega
      clear hy
      by_cases hV : V = 0
      · subst hV
        have HV2 := Lib.hid (vinv_skip Hs.out HV.out Hy.out rfl)
        clear hcast
        go_wp2_with fail
        go_roundw
        all_goals (first | exact ⟨i + 1, at_ + N.toNat, l, by omega, by simp, by congr 1; omega, HV2, HO, HBx⟩ | (simp [intOf]; omega))
      · have hVb : (V == 0) = false := by simpa using hV
        have HV2 := Lib.hid (vinv_new Hs.out HV.out Hy.out hV)
        have Ho8 := Lib.hid (show ((wr.alloc (.cells #[.int .i64 (at_ : Int), .int .i64 ((at_ : Int) + N - 1), .int .i64 V] 48)).drew).ownsRow B 48 3 u3 l.length (l.flatMap spv) from (World.ownsRow.alloc HO.out _).drew)
        have HR8 := Lib.hid (show Reads ((wr.alloc (.cells #[.int .i64 (at_ : Int), .int .i64 ((at_ : Int) + N - 1), .int .i64 V] 48)).drew) (wr.heap.size + 1) 3 (some ⟨wr.heap.size, 0, none⟩) 1 [.int .i64 (at_ : Int), .int .i64 ((at_ : Int) + N - 1), .int .i64 V] from
          ⟨rfl, fun _ => ⟨_, rfl, by simp, fun t u ht => by
            have hu := Blk.new wr 48 #[.int .i64 (at_ : Int), .int .i64 ((at_ : Int) + N - 1), .int .i64 V]
            rw [add_off_]
            exact (hu.drew.cell t).trans (by simpa using ht)⟩⟩)
        have hH8 : B ≤ ((wr.alloc (.cells #[.int .i64 (at_ : Int), .int .i64 ((at_ : Int) + N - 1), .int .i64 V] 48)).drew).heap.size := by have h1 := hbx.size; rw [← HBz.out] at h1; exact Nat.le_trans h1 (by simp)
        have hlen : l.length ≤ 1114112 := by have := HV.out.len; omega
        have HA := Lib.hid (show Below B wr ((wr.alloc (.cells #[.int .i64 (at_ : Int), .int .i64 ((at_ : Int) + N - 1), .int .i64 V] 48)).drew) from ((Below.refl B wr).alloc (by have := hbx.size; rw [HBz.out]; exact this) _).drew)
        have HK := Lib.hid (show ∀ u, ((wr.alloc (.cells #[.int .i64 (at_ : Int), .int .i64 ((at_ : Int) + N - 1), .int .i64 V] 48)).drew).grownBy u u3.ownBlock → Below B wr u ∧ u.cell? (ad.add (i * 2)) = some (.int .i64 N) from fun u hu => by
          have h1 : Below B wr u := HA.out.grown hu hH8 (fun g eg => (World.ownsRow.lt HO.out g eg).1)
          exact ⟨h1, (h1.cell (p := ad.add (i * 2)) (by rw [HBz.out]; unfold Addr.add; split <;> exact hadb)).trans q0⟩)
        obtain ⟨i0, hi0, hz0, hz1, hz2⟩ := info_parts Try.infoT48
        clear hcast hbx
        go_wp2_with fail
        go_region_law (refine step_append_ownS rfl (.tmp 23) (.tmp 39) 22 rfl Try.underlying22 hi0 hz0 hz1 hz2 rfl (by omega) (by omega) u3 l.length _ (by simp [Act.eval]) Ho8.out 1 1 (by omega) [.int .i64 (at_ : Int), .int .i64 ((at_ : Int) + N - 1), .int .i64 V] (by simp [Act.eval]) HR8.out (by intro u hu; simp at hu; rcases hu with rfl | rfl | rfl <;> rfl) (by omega) hH8 ?_; intro v8 w8 ho9 hg8 hat8; obtain ⟨k1, k2⟩ := HK.out w8 hg8)
        all_goals (go_wp2_with fail)
        all_goals
          have HO9 := Lib.hid (show w8.ownsRow B 48 3 v8 (l ++ [((at_ : Int), (at_ : Int) + N - 1, V)]).length ((l ++ [((at_ : Int), (at_ : Int) + N - 1, V)]).flatMap spv) by rw [spv_snoc, List.length_append]; exact ho9)
          exact ⟨⟨i + 1, at_ + N.toNat, _, by omega, by simp, by congr 1; omega, HV2, HO9, Lib.hid (HBx.out.trans k1)⟩, by simp [intOf]; omega⟩
    · have hie : m = i := by omega
      subst hie
      have hii : ¬ (m : Int) < (m : Int) := by omega
      have hae : at_ = 1114112 := by
        have h1 := HV.out.at_
        rw [Hm.out, List.take_length] at h1
        rw [h1]; exact Hs.out.len
      have hlm : l.length ≤ 1114112 := Nat.le_trans HV.out.len (by omega)
      have hsi : SInv (look ws ss) l 1114112 := by have := HV.out.inv; rw [hae] at this; exact this
      obtain ⟨A8, c8, rfl, hc8, hr8⟩ := val_of_ownS HO.out
      have HE := Lib.hid (show ValE ws ss (.returned (.slice A8 l.length c8)) wr from ⟨A8, _, c8, l, rfl, hr8, hc8, hlm, hsi⟩)
      have HBE := Lib.hid (HL5.out.trans (hbx.mono HL5.out.size))
      clear hae hsi hr8 hc8 hlm hbx
      go_wp2_with fail
      go_ret
      exact ⟨HE.out, HBE.out⟩
set_option maxRecDepth 100000 in
set_option maxHeartbeats 8000000 in
theorem refspans_any (A A' : Option Addr) (n c n' c' : Nat) (ws : List Int) (ss : List (List Int)) (w : World) (h : Tab w w.heap.size A n c A' n' c' ws ss) (hn : n ≤ 1000000000) (hn' : n' ≤ 1000000000) (hl : ∀ i, (stg ss i).length ≤ 12000) :
    Calls Try.prog 29 #[.agg #[.slice A n c, .slice A' n' c']] w fun e w' => SpnE ws ss e w' ∧ Below w.heap.size w w' := by
  have hL : Below w.heap.size w (w.alloc (.cells #[.slice A n c, .slice A' n' c'] 28)) := (Below.refl _ w).alloc (Nat.le_refl _) _
  have HB := Lib.hid (Blk.new w 28 #[.slice A n c, .slice A' n' c'])
  have HT := Lib.hid ((h.below hL).more hL.size)
  have HL := Lib.hid hL
  have Hln := Lib.hid hl
  clear h hL hl
  have g0 := HB.out.cell 0
  have g1 := HB.out.cell 1
  go_enter Try.func29, Try.ntmps29
  go_wp2_with fail
  obtain ⟨W, hW⟩ : ∃ W, W = w.alloc (.cells #[.slice A n c, .slice A' n' c'] 28) := ⟨_, rfl⟩
  rw [← hW] at HB HT HL g0 g1 ⊢
  clear hW
  refine (refvalidT_any A A' n c n' c' ws ss W HT.out hn hn' (fun i => Nat.le_trans (Hln.out i) (by omega))).mono ?_
  rintro e w1 ⟨⟨b, rfl, hb⟩, hb1⟩
  have HB1 := Lib.hid (HB.out.stay hb1)
  have HT1 := Lib.hid ((HT.out.below hb1).more hb1.size)
  have HL1 := Lib.hid (HL.out.trans (hb1.mono HL.out.size))
  have Hb := Lib.hid hb
  clear hb hb1 g0 g1
  have g0 := HB1.out.cell 0
  have g1 := HB1.out.cell 1
  cases b with
  | false =>
    go_wp2_with fail
    go_ret
    exact ⟨⟨none, 0, 0, [], rfl, Reads.none_, Nat.le_refl _, by omega, fun h => (by have := Hb.out.2 h; cases this), fun _ => rfl⟩, HL1.out⟩
  | true =>
    have hok := Hb.out.1 rfl
    have HE := Lib.hid (values_any A A' n c n' c' ws ss (formed_of_ok hok) Hln.out w1 HT1.out)
    have Hok := Lib.hid hok
    clear hok
    go_wp2_with fail
    refine HE.out.mono ?_
    rintro e w2 ⟨⟨A7, n7, c7, l, rfl, hr7, hc7, hn7, hs7⟩, hb7⟩
    have HF := Lib.hid (show SpnE ws ss (.returned (.slice A7 n7 c7)) w2 from ⟨A7, n7, c7, l, rfl, hr7, hc7, hn7, fun _ => hs7, fun h => absurd Hok.out h⟩)
    have HL2 := Lib.hid (HL1.out.trans (hb7.mono HL1.out.size))
    clear hr7 hc7 hn7 hs7 hb7 g0 g1
    go_wp2_with fail
    go_ret
    exact ⟨HF.out, HL2.out⟩
end Go.Proofs.Ytnlmikefihaldaa
