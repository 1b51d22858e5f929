/- The reference's Build. -/
import Derived.Test.YtnlmikefihaldaaNd
namespace Go.Proofs.Ytnlmikefihaldaa
open Go.RowKit

theorem rret_tab {tmps : Array Value} {g : Nat} {w : World} {x y u : Value} (hp : tmps.getD 4 undef = .pointer (some ⟨g, 0, none⟩)) (hu : tmps.getD 5 undef = u) (hb : Blk w g 28 #[x, y]) :
    (results Try.f13 tmps).run Try.prog w = .ok (.tuple #[.agg #[x, y], u]) w := by
  have hld := run_loadVar_row (P := Try.prog) w g 28 28 #[x, y] _ _ hb Try.underlying28 rfl (by kernel_rfl)
  rw [results_cell_tmp rfl, hp, hu]
  simp [asAddr, Result.andThen, hld]
theorem chk_zero2 {l : List (Int × Int × Int)} {ws : List Int} (h : ChkR l ws 0) : okS l ∧ okW ws := by
  rcases h with ⟨_, h⟩ | ⟨_, _, h⟩ | ⟨h1, h2, _⟩
  · omega
  · omega
  · exact ⟨h1, h2⟩
/-- where the reference's Build lays its memory: s, h the heap's sizes at the start and behind Check -/
def rfOf (s h : Nat) (A : Option Addr) (n c : Nat) (A' : Option Addr) (m c' : Nat) : RF := ⟨h + 1, h, h + 2, s, A, n, c, A', m, c'⟩
theorem rfOf_ok {s h : Nat} {A : Option Addr} {n c : Nat} {A' : Option Addr} {m c' : Nat} (hs : s + 1 ≤ h) (hc : m ≤ c') (hnc : n ≤ c) (hn : n ≤ 1000000) : (rfOf s h A n c A' m c').ok := by
  refine ⟨?_, ?_, ?_, ?_, fun b hb => ?_, hc, hnc, hn⟩ <;> simp only [rfOf] at * <;> omega
theorem rmem_start {F : RF} {A : Option Addr} {n c : Nat} {A' : Option Addr} {m c' s h : Nat} {w w1 w2 : World} {Z1 : Array Value} {l : List (Int × Int × Int)} {ws : List Int} (hF : F = rfOf s h A n c A' m c') (hs : s + 1 ≤ h) (hh : h = w1.heap.size) (hsw : w.heap.size = s)
    (h1 : Z1.size = m + 1 ∧ ∀ k, k < m + 1 → Z1[k]? = some (Value.slice none 0 0)) (hb : Below w.heap.size w w1)
    (hw2 : w2 = (w1.alloc (.cells Z1 23)).alloc (.cells #[.slice A n c, .slice A' m c', .slice (some ⟨h, 0, none⟩) (m + 1) (m + 1), .slice none 0 0] 63))
    (hr : Reads w s 3 A n (l.flatMap spv)) (hr' : Reads w s 1 A' m (ws.map iv)) : RMem F l ws (PS0 m) [] w2 := by
  subst hF
  have hst : ∀ k, stg (PS0 m).ss k = [] := fun k => stg_rep _ _
  have hrl : Reads w2 s 3 A n (l.flatMap spv) := by rw [hw2]; exact ((hr.below (hsw ▸ hb)).alloc (by omega) _).alloc (by simp; omega) _
  have hrw : Reads w2 s 1 A' m (ws.map iv) := by rw [hw2]; exact ((hr'.below (hsw ▸ hb)).alloc (by omega) _).alloc (by simp; omega) _
  have hb1 : Blk w2 h 23 Z1 := by rw [hw2]; exact (blk_at hh).alloc _
  have hb2 : Blk w2 (h + 1) 63 #[.slice A n c, .slice A' m c', .slice (some ⟨h, 0, none⟩) (m + 1) (m + 1), .slice none 0 0] := by rw [hw2]; exact blk_at (by simp; omega)
  refine ⟨⟨_, hb2, World.ownsRow_nil _ _ _ _⟩, ⟨Z1, hb1, h1.1, fun k hk => ⟨_, h1.2 k (by show k < m + 1; exact Nat.lt_succ_of_le hk), by rw [hst]; exact World.ownsRow_nil _ _ _ _⟩, fun j k u v b hjk hu hv hbb => ?_⟩, fun k v ve b h2 h3 h4 => ?_, fun k v => rfl, hrl, hrw, by rw [hw2]; simp [rfOf]; omega⟩
  · have hj := (Array.getElem?_eq_some_iff.1 hu).1
    rw [h1.2 j (by rw [← h1.1]; exact hj)] at hu
    injection hu with hu
    subst hu
    cases hbb
  · have h5 : Blk w2 (h + 1) _ _ := hb2
    rw [show (rfOf s h A n c A' m c').bb = h + 1 from rfl, h5.cell] at h3
    simp at h3
    subst h3
    intro e; cases e
section
variable {F : RF} {l : List (Int × Int × Int)} {ws : List Int} {st : PS} {evs : List (Int × Int × Int)} {w w' : World}
/-- the table that the builder's memory holds -/
theorem rmem_tab (h : RMem F l ws st evs w) (hls : st.ss.length = F.m + 1) (hgs : w'.heap[F.gs]? = w.heap[F.gs]?) (hrow : ∀ b, F.H0 ≤ b → b < w.heap.size → w'.heap[b]? = w.heap[b]?) : ∃ vs, Reads w' w'.heap.size 1 (some ⟨F.gs, 0, none⟩) (F.m + 1) vs ∧ Rows w' w'.heap.size vs st.ss := by
  obtain ⟨V, h1, h2, h3, h4⟩ := h.cs
  have h1' := h1.blk hgs
  refine ⟨V.toList, ⟨by simp [h2], fun _ => ⟨_, rfl, h1'.lt, fun j u hu => ?_⟩⟩, by simp [h2, hls], fun i xs hx => ?_⟩
  · have e : (⟨F.gs, 0, none⟩ : Addr).add j = ⟨F.gs, j, none⟩ := by unfold Addr.add; split <;> simp_all
    rw [e, h1'.cell, ← Array.getElem?_toList]; exact hu
  · have hi : i ≤ F.m := by have := (List.getElem?_eq_some_iff.1 hx).1; omega
    obtain ⟨v, g1, g2⟩ := h3 i hi
    have e : stg st.ss i = xs := by simp [stg, List.getD, hx]
    rw [e] at g2
    obtain ⟨A, c, rfl, q1, q2⟩ := val_of_own (own_blk (w' := w') g2 fun g eg => hrow g (g2.lt g eg).1 (g2.lt g eg).2)
    exact ⟨A, c, by rw [Array.getElem?_toList]; exact g1, q1, q2⟩
end

set_option maxRecDepth 100000 in
set_option maxHeartbeats 4000000 in
theorem rbuild_any (A : Option Addr) (n c : Nat) (l : List (Int × Int × Int)) (A' : Option Addr) (m c' : Nat) (ws : List Int) (w : World) (hr : Reads w w.heap.size 3 A n (l.flatMap spv)) (hnc : n ≤ c) (hr' : Reads w w.heap.size 1 A' m (ws.map iv)) (hn : n ≤ 1000000) (hc' : m ≤ c') (hm : m ≤ 1000000) (hl : W64s l) :
    Calls Try.prog 13 #[.slice A n c, .slice A' m c'] w fun e w' => BuildE l ws m e w' ∧ Below w.heap.size w w' := by
  have Hr := Lib.hid hr
  have Hr' := Lib.hid hr'
  have Hl := Lib.hid hl
  clear hr hr' hl
  go_enter Try.func13, Try.ntmps13
  go_wp2_with fail
  have hL : Below w.heap.size w (w.alloc (.cells #[.slice none 0 0, .slice none 0 0] 28)) := (Below.refl _ _).alloc (Nat.le_refl _) _
  have p3 := Blk.new w 28 #[.slice none 0 0, .slice none 0 0]
  obtain ⟨W, hW⟩ : ∃ W, W = w.alloc (.cells #[.slice none 0 0, .slice none 0 0] 28) := ⟨_, rfl⟩
  have hW1 : W.heap.size = w.heap.size + 1 := by rw [hW]; simp
  rw [← hW] at hL p3 ⊢
  clear hW
  refine (rcheck_any A n c l A' m c' ws W ((Hr.out.below hL).more hL.size) ((Hr'.out.below hL).more hL.size) hn hm).mono ?_
  rintro e w1 ⟨⟨r, rfl, hr⟩, hb1⟩
  have hL1 := hL.trans (hb1.mono hL.size)
  have hsz1 : w.heap.size + 1 ≤ w1.heap.size := by have := hb1.size; rw [hW1] at this; exact this
  have P3 := Lib.hid (p3.stay hb1)
  have HL := Lib.hid hL1
  have HR := Lib.hid hr
  have Hsz1 := Lib.hid hsz1
  clear hL p3 hb1 hL1 hr hsz1
  have g3 := P3.out.cell 0
  have g4 := P3.out.cell 1
  have f3 := P3.out.frozen 0
  have f4 := P3.out.frozen 1
  by_cases hr0 : r = 0
  rotate_left
  · have hrb : (r != 0) = true := by simpa using hr0
    go_wp2
    (try simp only [Exit.inBlock, Exit.then])
    refine bodyPost_ret (rret_tab rfl rfl (x := .slice none 0 0) (y := .slice none 0 0) ?_) rfl ?_
    · have h1 := (P3.out.set_ 0 (.slice none 0 0)).set_ 1 (.slice none 0 0)
      simpa using h1
    · exact ⟨.inl ⟨r, hr0, HR.out, rfl⟩, ((HL.out.setCell (by simp) _).setCell (by simp) _)⟩
  subst hr0
  obtain ⟨hs, hw⟩ := chk_zero2 HR.out
  have hml : ws.length = m := by have := Hr'.out.1; simpa using this
  have hm3 : 1 ≤ m ∧ m ≤ 3 := by rw [← hml]; exact ⟨hw.1, hw.2.1⟩
  obtain ⟨hm1, hm3⟩ := hm3
  have Hw := Lib.hid hw
  have Hs := Lib.hid hs
  have Hml := Lib.hid hml
  clear hw hs hml
  obtain ⟨i1, a1, a2, a3, a4⟩ := info_parts Try.infoT23
  obtain ⟨Z1, hZ1, hZ1k, hmk1⟩ := mk_any 26 23 i1 (.slice none 0 0) 24 Try.underlying26 a1 a2 a3 a4 (by omega) rfl (m + 1) (by omega)
  clear a1 a2 a3 a4
  rw [show ((m + 1 : Nat) : Int) = (m : Int) + 1 by omega] at hmk1
  have HZ1 := Lib.hid (And.intro hZ1 hZ1k)
  clear hZ1 hZ1k f3 f4 g3 g4
  go_wp2_with fail
  obtain ⟨F, hF⟩ : ∃ F, F = rfOf w.heap.size w1.heap.size A n c A' m c' := ⟨_, rfl⟩
  obtain ⟨w2, hw2⟩ : ∃ w2, w2 = (w1.alloc (.cells Z1 23)).alloc (.cells #[.slice A n c, .slice A' m c', .slice (some ⟨w1.heap.size, 0, none⟩) (m + 1) (m + 1), .slice none 0 0] 63) := ⟨_, rfl⟩
  have hB0 := rmem_start (l := l) (ws := ws) hF Hsz1.out rfl rfl HZ1.out HL.out hw2 Hr.out Hr'.out
  have hbw : Below w.heap.size w w2 := by rw [hw2]; exact (HL.out.alloc (by have := HL.out.size; omega) _).alloc (by have := HL.out.size; simp; omega) _
  have hxr : Blk w2 w.heap.size 28 #[.slice none 0 0, .slice none 0 0] := by rw [hw2]; exact (P3.out.alloc _).alloc _
  have HB0 := Lib.hid hB0
  have HBw := Lib.hid hbw
  have HXr := Lib.hid hxr
  have HF := Lib.hid hF
  have HFok := Lib.hid (show F.ok by rw [hF]; exact rfOf_ok Hsz1.out hc' hnc hn)
  have hbb : w1.heap.size + 1 = F.bb := by rw [hF]; rfl
  have hgs : w1.heap.size = F.gs := by rw [hF]; rfl
  have Hgs := Lib.hid (And.intro hgs hbb)
  rw [← hw2, hbb, hgs]
  have hsw : w.heap.size ≤ w2.heap.size := hbw.size
  clear hB0 hbw hxr hw2 hbb hgs hF hmk1 HZ1 P3
  refine (bits_any A' m c' ws w2 ((Hr'.out.below HBw.out).more hsw) (by omega)).mono ?_
  rintro e w3 ⟨rfl, rfl⟩
  rw [bits_yes Hw.out]
  have hbi := bel_int Hw.out 0
  rw [List.drop_zero] at hbi
  rw [hbi]
  clear hbi
  have hb16 := bel_le Hw.out 0
  obtain ⟨b0, hb0⟩ : ∃ b0, b0 = bel ws 0 := ⟨_, rfl⟩
  have hpw := pow_wrap16 b0 (by omega)
  obtain ⟨M0, hM0⟩ : ∃ M0, M0 = 2 ^ b0 := ⟨_, rfl⟩
  have hM01 : 0 < M0 := by rw [hM0]; exact Nat.two_pow_pos _
  have hM02 : M0 ≤ 65536 := by rw [hM0]; exact Nat.le_trans (Nat.pow_le_pow_right (n := 2) (by decide) (show b0 ≤ 16 by omega)) (by decide)
  obtain ⟨J, hJ⟩ : ∃ J, J = 1114112 / 2 ^ ws.sum.toNat := ⟨_, rfl⟩
  have hJM := st0_dvd Hw.out hJ
  rw [← hb0] at hJM hb16 ⊢
  rw [← hM0] at hJM hpw
  have HM0 := Lib.hid (show M0 = 2 ^ bel ws 0 by rw [hM0, hb0])
  have HJ := Lib.hid hJ
  have HJM := Lib.hid hJM
  clear hb0 hM0 hJ hJM
  go_wp2_with fail
  go_loopw [9] (fun s9 wr => ∃ (j p : Nat) (st : PS) (evs : List (Int × Int × Int)), j ≤ J ∧ s9 = .int .i64 (p : Int) ∧ Hid (p = j * M0) ∧ Hid (S0 ws l st j) ∧ Hid (RMem F l ws st evs wr) ∧ Hid (RFrm F w3 wr) ∧ Hid (evs.length ≤ 2 * p)) (fun s9 _ => 1114112 - (intOf s9).toNat)
  case atStart => exact ⟨0, 0, PS0 m, [], by omega, rfl, Lib.hid (by simp), Lib.hid (s0_zero Hml.out), HB0, Lib.hid (RFrm.refl _ _), Lib.hid (by simp)⟩
  case round =>
    obtain ⟨j, p, st, evs, hj, rfl, Hp, HS, HB, HFr, Hev⟩ := hrel
    by_cases hlt : j < J
    · have hpM : p + M0 ≤ 1114112 := by rw [Hp.out, ← HJM.out, ← Nat.succ_mul]; exact Nat.mul_le_mul_right _ hlt
      have hpi : (p : Int) < 1114112 := by omega
      have hrl : Reads wr F.N 3 A n (l.flatMap spv) := by have := HB.out.rl; rw [HF.out] at this ⊢; exact this
      have HRl := Lib.hid hrl
      have hFm : F.m = m := by rw [HF.out]; rfl
      clear hrl
      go_wp2_with fail
      refine (within_any A n c l (p : Int) ((p : Int) + (M0 : Int) - 1) F.N wr HRl.out hnc hn Hs.out).mono ?_
      rintro e w5 ⟨⟨A2, n2, c2, nl2, rfl, hr2, hc2, hn2', hnear⟩, rfl⟩
      have hcall := rblock_any F HFok.out l ws Hw.out Hl.out (by rw [hFm]; exact Hml.out) (m - 1) 0 (by omega) p st evs A2 n2 c2 nl2 w5 (by have := HS.out.inv; rw [← HM0.out, ← Hp.out] at this; exact this) (by rw [← HM0.out]; exact hpM) Hev.out HB.out hr2 hc2 hn2' (by rw [← HM0.out]; exact hnear)
      rw [← HM0.out, show ((0 : Nat) : Int) + 1 = 1 from rfl] at hcall
      unfold ptr at hcall
      have Hcall := Lib.hid hcall
      clear hcall hr2 hnear hFm
      go_wp2_with fail
      refine Hcall.out.mono ?_
      rintro e w6 ⟨st5, ev5, i5, rfl, hP5, hB5, hF5, hct5⟩
      have hFm : F.m = m := by rw [HF.out]; rfl
      obtain ⟨A8, c8, hc8, _, ho8⟩ := hB5.row (k := 0) (by omega)
      have d0 := hc8
      obtain ⟨ve5, y1, y2⟩ := hB5.xb
      have d1 : w6.cell? ⟨F.bb, 2, none⟩ = some (.slice (some ⟨F.gs, 0, none⟩) (m + 1) (m + 1)) := by have := y1.cell 2; rw [hFm] at this; exact this
      have hfz := hB5.frozen 0
      have hgs5 := hB5.gs
      have hbs5 := hB5.bb
      have hgl := HFok.out.hg
      have hbl := HFok.out.hb
      have hne5 := HFok.out.ne
      have hsz5 := hB5.sz
      have hX : ∀ g : Nat, g < w6.heap.size → (w6.alloc (.cells #[.int .i64 (i5 : Int)] 3)).heap[g]? = w6.heap[g]? := fun g hg => Below.heap_alloc _ _ _ hg
      have HK := Lib.hid (show ∀ u, (w6.alloc (.cells #[.int .i64 (i5 : Int)] 3)).grownBy u (Value.slice A8 (stg st5.ss 0).length c8).ownBlock → u.cell? ⟨F.bb, 2, none⟩ = some (.slice (some ⟨F.gs, 0, none⟩) (m + 1) (m + 1)) ∧ (∃ y, u.cell? ⟨F.gs, 0, none⟩ = some y) ∧ u.frozen? ⟨F.gs, 0, none⟩ = false from fun u hu => by
        have e1 : u.heap[F.gs]? = w6.heap[F.gs]? := (hu.block _ (by simp; omega) (fun e => by have := (ho8.lt _ e.symm).1; omega)).trans (hX _ hgs5)
        have e2 : u.heap[F.bb]? = w6.heap[F.bb]? := (hu.block _ (by simp; omega) (fun e => by have := (ho8.lt _ e.symm).1; omega)).trans (hX _ hbs5)
        exact ⟨(World.cell?_of_block e2).trans d1, ⟨_, (World.cell?_of_block e1).trans d0⟩, (World.frozen?_of_block e1).trans hfz⟩)
      have HNEW := Lib.hid (show ∀ (u : World) (v' : Value), (w6.alloc (.cells #[.int .i64 (i5 : Int)] 3)).grownBy u (Value.slice A8 (stg st5.ss 0).length c8).ownBlock → u.ownsRow F.H0 3 1 v' ((stg st5.ss 0).length + 1) ((stg st5.ss 0).map iv ++ [.int .i64 (i5 : Int)]) → (v'.ownBlock = (Value.slice A8 (stg st5.ss 0).length c8).ownBlock ∨ v'.ownBlock = some (w6.alloc (.cells #[.int .i64 (i5 : Int)] 3)).heap.size) →
          S0 ws l (putTop st5 (i5 : Int)) (j + 1) ∧ RMem F l ws (putTop st5 (i5 : Int)) ev5 (u.setCell ⟨F.gs, 0, none⟩ v') ∧ RFrm F w3 (u.setCell ⟨F.gs, 0, none⟩ v') from fun u v' q1 q2 q3 => by
        have hsl : 0 < st5.ss.length := by rw [hP5.inv.1]; omega
        obtain ⟨r1, r2⟩ := rmem_row (st' := putTop st5 (i5 : Int)) (nums := [(i5 : Int)]) HFok.out hB5 (t := 0) (by omega) (stg_set_same hsl _) (fun j hj => stg_set_other hj _) rfl hc8 (grownBy_alloc_left q1) q2 (by
          rcases q3 with h | h
          · exact .inl h
          · exact .inr fun b e => by rw [h] at e; injection e with e; simp at e; omega)
        exact ⟨s0_step Hw.out HS.out (by rw [← HM0.out, ← Hp.out]; exact hP5), r1, (HFr.out.trans hF5).trans r2⟩)
      obtain ⟨L8, hL8⟩ : ∃ L8, L8 = (stg st5.ss 0).length := ⟨_, rfl⟩
      have hL8b : L8 ≤ 1114112 := by
        have hJb : J ≤ 1114112 := by rw [HJ.out]; exact Nat.div_le_self _ _
        rw [hL8, hP5.ext.1 0 (Nat.le_refl _), HS.out.len]; omega
      rw [← hL8] at d0 HK HNEW ho8
      have Ho8 := Lib.hid (show ((w6.alloc (.cells #[.int .i64 (i5 : Int)] 3)).drew).ownsRow F.H0 3 1 (.slice A8 L8 c8) L8 ((stg st5.ss 0).map iv) from (ho8.alloc _).drew)
      have HR8 := Lib.hid (show Reads ((w6.alloc (.cells #[.int .i64 (i5 : Int)] 3)).drew) (w6.heap.size + 1) 1 (some ⟨w6.heap.size, 0, none⟩) 1 [.int .i64 (i5 : Int)] from
        ⟨rfl, fun _ => ⟨_, rfl, by simp, fun t u ht => by
          have hu := Blk.new w6 3 #[.int .i64 (i5 : Int)]
          cases t with
          | zero => simp at ht; subst ht; exact hu.cell 0
          | succ t => simp at ht⟩⟩)
      have hH8 : F.H0 ≤ ((w6.alloc (.cells #[.int .i64 (i5 : Int)] 3)).drew).heap.size := by simp; omega
      have Hct5 := Lib.hid (show ev5.length ≤ 2 * (p + M0) by have := Hev.out; rw [← HM0.out] at hct5; omega)
      obtain ⟨i0, hi, hz0, hz1', hz2'⟩ := info_parts Try.infoT3
      clear hL8 hc8 ho8 hgl hbl hsz5 hX hP5 hB5 hF5 hct5 hFm y1 y2
      go_wp2_with fail
      go_region_law (refine step_append_own_at rfl (.tmp 54) (.tmp 56) 23 rfl Try.underlying23 hi hz0 hz1' hz2' rfl (by omega) (.slice A8 L8 c8) L8 _ (by simp [Act.eval]) Ho8.out 1 1 (by omega) [.int .i64 (i5 : Int)] (by simp [Act.eval]) HR8.out (by intro u hu; simp at hu; subst hu; rfl) (by omega) hH8 ?_; intro v8 w8 ho9 hg8 hat8; obtain ⟨A10, c10, rfl, _, _⟩ := val_of_own ho9; have hg9 := grown_undrew hg8; obtain ⟨k1, ⟨ky, k2⟩, k3⟩ := HK.out w8 hg9)
      all_goals (go_wp2_with fail)
      all_goals (obtain ⟨r1, r2, r3⟩ := HNEW.out w8 _ hg9 ho9 hat8; go_roundw)
      all_goals (first | exact ⟨j + 1, p + M0, putTop st5 (i5 : Int), ev5, by omega, by go_num, Lib.hid (by rw [Hp.out, Nat.succ_mul]), Lib.hid r1, Lib.hid r2, Lib.hid r3, Hct5⟩ | (simp [intOf]; omega))
    · have hjJ : j = J := by omega
      have hpe : p = 1114112 := by rw [Hp.out, hjJ, HJM.out]
      have hpi : ¬ (p : Int) < 1114112 := by omega
      have hcan := can_of Hw.out HS.out (by rw [hjJ, HJ.out])
      have HCan := Lib.hid hcan
      have hFm : F.m = m := by rw [HF.out]; rfl
      have hst := HCan.out.ok.2.1
      obtain ⟨ve5, y1, y2⟩ := HB.out.xb
      have d1 : wr.cell? ⟨F.bb, 2, none⟩ = some (.slice (some ⟨F.gs, 0, none⟩) (m + 1) (m + 1)) := by have := y1.cell 2; rw [hFm] at this; exact this
      have hFs : w.heap.size ≠ F.gs ∧ w.heap.size ≠ F.bb ∧ w.heap.size < F.H0 ∧ (∀ b, b < w.heap.size → b ≠ F.gs ∧ b ≠ F.bb ∧ b < F.H0) := by
        rw [HF.out]
        have := Hsz1.out
        refine ⟨?_, ?_, ?_, fun b hb => ⟨?_, ?_, ?_⟩⟩ <;> simp only [rfOf] <;> omega
      obtain ⟨hf1, hf2, hf3, hf4⟩ := hFs
      have hsz3 := HB0.out.sz
      have hbel : Below w.heap.size w wr := HBw.out.trans ⟨HFr.out.os, HFr.out.tape, HFr.out.output, HFr.out.size, fun b hb => HFr.out.block b (by have := (hf4 b hb).2.2; omega) (hf4 b hb).1 (hf4 b hb).2.1 (fun h => by have := (rB_ge HB0.out h).1; have := (hf4 b hb).2.2; omega)⟩
      have hxr : Blk wr w.heap.size 28 #[.slice none 0 0, .slice none 0 0] := HXr.out.blk (HFr.out.block _ (by omega) hf1 hf2 (fun h => by have := (rB_ge HB0.out h).1; omega))
      have hlt1 := hxr.lt
      have hbbl := HB.out.bb
      have hrr := (Hr'.out.below hbel).more hbel.size
      have K := Lib.hid (show ∀ u, Below wr.heap.size wr u → u.cell? ⟨F.bb, 2, none⟩ = some (.slice (some ⟨F.gs, 0, none⟩) (m + 1) (m + 1)) ∧ (u.cell? ⟨w.heap.size, 0, none⟩ = some (.slice none 0 0) ∧ u.frozen? ⟨w.heap.size, 0, none⟩ = false) ∧ u.cell? ⟨w.heap.size, 1, none⟩ = some (.slice none 0 0) ∧ u.frozen? ⟨w.heap.size, 1, none⟩ = false from fun u hu =>
        ⟨(hu.cell hbbl).trans d1, ⟨(hxr.stay hu).cell 0, (hxr.stay hu).frozen 0⟩, (hxr.stay hu).cell 1, (hxr.stay hu).frozen 1⟩)
      have HTb := Lib.hid (show ∀ u : World, u.heap[F.gs]? = wr.heap[F.gs]? → (∀ b, F.H0 ≤ b → b < wr.heap.size → u.heap[b]? = wr.heap[b]?) → ∃ vs, Reads u u.heap.size 1 (some ⟨F.gs, 0, none⟩) (m + 1) vs ∧ Rows u u.heap.size vs st.ss from fun u h1 h2 => by have := rmem_tab HB.out (by rw [hst, Hml.out, hFm]) h1 h2; rw [hFm] at this; exact this)
      have HG := Lib.hid (show F.gs < wr.heap.size ∧ w.heap.size ≠ F.gs ∧ w.heap.size < F.H0 from ⟨HB.out.gs, hf1, hf3⟩)
      have HBel := Lib.hid hbel
      have HXr2 := Lib.hid hxr
      have Hown := Lib.hid (show ((wr.alloc (.cells #[] 3)).drew).ownsRow wr.heap.size 3 1 (.slice (some ⟨wr.heap.size, 0, none⟩) 0 0) 0 [] from (World.ownsRow_made wr #[] 0 (Nat.le_refl _) (by unfold maxLen; omega) rfl).drew)
      have HRr := Lib.hid (show Reads ((wr.alloc (.cells #[] 3)).drew) wr.heap.size 1 A' m (ws.map iv) from (hrr.alloc (Nat.le_refl _) _).drew)
      have Hone := Lib.hid (iv_one ws)
      have hHw : wr.heap.size ≤ ((wr.alloc (.cells #[] 3)).drew).heap.size := by simp
      have hm0 : 0 < m := by omega
      obtain ⟨i0, hi, hz0, hz1', hz2'⟩ := info_parts Try.infoT3
      clear y1 y2 hf1 hf2 hf3 hf4 hbel hxr hrr hst hcan hFm hlt hj hjJ hpe
      go_wp2_with fail
      go_region_law (refine step_append_own_at rfl (.tmp 59) (.tmp 60) 23 rfl Try.underlying23 hi hz0 hz1' hz2' rfl (by omega) (.slice (some ⟨wr.heap.size, 0, none⟩) 0 0) 0 [] (by simp [Act.eval]) Hown.out m c' hm0 (ws.map iv) (by simp [Act.eval]) HRr.out Hone.out (by omega) hHw ?_; intro v8 w8 ho9 hg8 hat8; obtain ⟨A10, c10, rfl, _, _⟩ := val_of_own ho9; have hb8 : Below wr.heap.size wr w8 := ⟨hg8.os, hg8.tape, hg8.output, by have := hg8.size; simp at this; omega, fun b hb => (hg8.block b (by simp; omega) (by simp [Value.ownBlock]; omega)).trans (Below.heap_alloc _ _ _ hb)⟩; obtain ⟨k1, ⟨k2, k3⟩, k4, k5⟩ := K.out w8 hb8)
      all_goals
        have ho10 : w8.ownsRow wr.heap.size 3 1 (.slice A10 m c10) m (ws.map iv) := by simpa using ho9
        have hF0 := HXr2.out.stay hb8
        have hBlk : Blk ((w8.setCell ⟨w.heap.size, 0, none⟩ (.slice A10 m c10)).setCell ⟨w.heap.size, 1, none⟩ (.slice (some ⟨F.gs, 0, none⟩) (m + 1) (m + 1))) w.heap.size 28 #[.slice A10 m c10, .slice (some ⟨F.gs, 0, none⟩) (m + 1) (m + 1)] := by
          have := (hF0.set_ 0 (.slice A10 m c10)).set_ 1 (.slice (some ⟨F.gs, 0, none⟩) (m + 1) (m + 1))
          simpa using this
        have hbel2 : Below w.heap.size w ((w8.setCell ⟨w.heap.size, 0, none⟩ (.slice A10 m c10)).setCell ⟨w.heap.size, 1, none⟩ (.slice (some ⟨F.gs, 0, none⟩) (m + 1) (m + 1))) :=
          ((HBel.out.trans (hb8.mono HBel.out.size)).setCell (by simp) _).setCell (by simp) _
        have hsz8 := hb8.size
        have hfar : ∀ b, b ≠ w.heap.size → ((w8.setCell ⟨w.heap.size, 0, none⟩ (.slice A10 m c10)).setCell ⟨w.heap.size, 1, none⟩ (.slice (some ⟨F.gs, 0, none⟩) (m + 1) (m + 1))).heap[b]? = w8.heap[b]? := fun b hb => (Below.heap_setCell _ _ _ b hb).trans (Below.heap_setCell _ _ _ b hb)
        obtain ⟨hG1, hG2, hG3⟩ := HG.out
        obtain ⟨vs, ht1, ht2⟩ := HTb.out _ ((hfar F.gs (by omega)).trans (hb8.block _ hG1)) (fun b h1 h2 => (hfar b (by omega)).trans (hb8.block b h2))
        obtain ⟨A2, c2, he2, hc2, hr2⟩ := val_of_own (own_blk ho10 fun g eg => hfar g (by have := (ho10.lt g eg).1; omega))
        injection he2 with e1 e2 e3
        subst e1
        subst e3
        have HE := Lib.hid (show BuildE l ws m (.returned (.tuple #[.agg #[.slice A10 m c10, .slice (some ⟨F.gs, 0, none⟩) (m + 1) (m + 1)], .int .i64 0])) ((w8.setCell ⟨w.heap.size, 0, none⟩ (.slice A10 m c10)).setCell ⟨w.heap.size, 1, none⟩ (.slice (some ⟨F.gs, 0, none⟩) (m + 1) (m + 1))) from
          .inr ⟨HR.out, _, _, rfl, ⟨A10, c10, _, _, rfl, ⟨hr2, hc2, vs, ht1, ht2⟩⟩, HCan.out⟩)
        clear ht1 ht2 hr2 hfar k1 k2 k3 k4 k5
        go_wp2
        (try simp only [Exit.inBlock, Exit.then])
        exact bodyPost_ret (rret_tab rfl rfl hBlk) rfl ⟨HE.out, hbel2⟩
end Go.Proofs.Ytnlmikefihaldaa
