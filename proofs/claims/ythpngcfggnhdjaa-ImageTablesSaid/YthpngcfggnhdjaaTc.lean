/- The closure of ReadTable. -/
import Derived.Test.YthpngcfggnhdjaaTa
namespace Go.Proofs.Ythpngcfggnhdjaa
open Go.RowKit Go.Proofs.Img

def CPost (l : List UInt8) (pb : Nat) (w : World) (e : Ending) (w' : World) : Prop :=
  match bodyT l with
  | .ok t => e = .returned (.tuple #[]) ∧ ∃ A c v vs, Blk w' pb 51 #[.slice A t.ws.length c, v] ∧ t.ws.length ≤ c ∧ w'.ownsRow (w.heap.size + 1) 26 1 v t.ss.length vs ∧ Capped vs ∧ RowsIn w' (w.heap.size + 1) vs t.ss v.ownBlock ∧
      RowsIn w' (w.heap.size + 1) [.slice A t.ws.length c] [t.ws] v.ownBlock ∧ w.grownBy w' (some pb)
  | .error c => e = .panicked (stopV c) ∧ w.grownBy w' (some pb)
theorem cpost_err {l : List UInt8} {pb : Nat} {w w' : World} {c : Int} (h : bodyT l = .error c) (hg : w.grownBy w' (some pb)) : CPost l pb w (.panicked (stopV c)) w' := by
  unfold CPost; rw [h]; exact ⟨rfl, hg⟩
structure TcRel (l : List UInt8) (ws : List Int) (k0 pb : Nat) (A : Option Addr) (c : Nat) (w : World) (j m : Nat) (vs : List Value) (ls : List (List Int)) (v : Value) (wr : World) : Prop where
  len : ls.length = j
  le : k0 + m ≤ l.length
  lst : lists (ws.length + 1) (l.drop k0) = preL ls m (lists (ws.length + 1 - j) ((l.drop k0).drop m))
  own : wr.ownsRow (w.heap.size + 1) 26 1 v j vs
  cap : Capped vs
  rows : RowsIn wr (w.heap.size + 1) vs ls v.ownBlock
  tb : Blk wr pb 51 #[.slice A ws.length c, v]
  wid : RowsIn wr (w.heap.size + 1) [.slice A ws.length c] [ws] v.ownBlock
  rdr : Rdr wr w.heap.size l (k0 + m)
  gr : w.grownBy wr (some pb)

theorem grown_undrew {w u : World} {r : Option Nat} (h : w.drew.grownBy u r) : w.grownBy u r := ⟨h.os, h.tape, h.output, h.size, h.block⟩
/-- behind the reading of one more row -/
structure TcMid (l : List UInt8) (ws : List Int) (k0 pb : Nat) (A : Option Addr) (c : Nat) (w : World) (j m : Nat) (vs : List Value) (ls : List (List Int)) (v : Value) (y : List Int) (k : Nat) (A2 : Option Addr) (c2 : Nat) (u : World) : Prop where
  le : k0 + m + k ≤ l.length
  lst : lists (ws.length + 1) (l.drop k0) = preL (ls ++ [y]) (m + k) (lists (ws.length + 1 - (j + 1)) ((l.drop k0).drop (m + k)))
  cap : y.length ≤ c2
  rd : Reads u u.heap.size 1 A2 y.length (y.map iv)
  ne : ∀ ad, A2 = some ad → 0 < y.length → w.heap.size + 1 ≤ ad.block ∧ v.ownBlock ≠ some ad.block
  own : u.ownsRow (w.heap.size + 1) 26 1 v j vs
  rows : RowsIn u (w.heap.size + 1) vs ls v.ownBlock
  wid : RowsIn u (w.heap.size + 1) [.slice A ws.length c] [ws] v.ownBlock
  tb : Blk u pb 51 #[.slice A ws.length c, v]
  rdr : Rdr u w.heap.size l (k0 + m + k)
  gr : w.grownBy u (some pb)

theorem tc_next {l : List UInt8} {ws : List Int} {k0 pb : Nat} {A : Option Addr} {c : Nat} {w : World} {j m : Nat} {vs : List Value} {ls : List (List Int)} {v : Value} {y : List Int} {k : Nat} {A2 : Option Addr} {c2 : Nat} {u w5 : World} {A5 : Option Addr} {c5 : Nat}
    (HM : TcMid l ws k0 pb A c w j m vs ls v y k A2 c2 u) (hC : Capped vs) (hlen : ls.length = j) (hpb : pb < w.heap.size)
    (ho5 : w5.ownsRow (w.heap.size + 1) 26 1 (.slice A5 (j + 1) c5) (j + 1) (vs ++ [.slice A2 y.length c2])) (hR5 : RowsIn w5 (w.heap.size + 1) (vs ++ [.slice A2 y.length c2]) (ls ++ [y]) (Value.slice A5 (j + 1) c5).ownBlock)
    (hg5 : (u.alloc (.cells #[.slice A2 y.length c2] 26)).grownBy w5 v.ownBlock) (hv5 : (Value.slice A5 (j + 1) c5).ownBlock = v.ownBlock ∨ ∃ N, (Value.slice A5 (j + 1) c5).ownBlock = some N ∧ (u.alloc (.cells #[.slice A2 y.length c2] 26)).heap.size ≤ N) :
    TcRel l ws k0 pb A c w (j + 1) (m + k) (vs ++ [.slice A2 y.length c2]) (ls ++ [y]) (.slice A5 (j + 1) c5) (w5.setCell ⟨pb, 1, none⟩ (.slice A5 (j + 1) c5)) := by
  have hsz := HM.rdr.lt
  have hown : ∀ g, v.ownBlock = some g → w.heap.size + 1 ≤ g := fun g e => (HM.own.lt g e).1
  have hnb : some pb ≠ v.ownBlock := fun e => by have := hown _ e.symm; omega
  have hnr : some w.heap.size ≠ v.ownBlock := fun e => by have := hown _ e.symm; omega
  have hbel : Below w.heap.size u w5 := ((Below.refl _ _).alloc (by omega) _).grown hg5 (by simp; omega) (fun g e => by have := hown g e; omega)
  have ht5 := (HM.tb.alloc (.cells #[.slice A2 y.length c2] 26)).grown hg5 hnb
  have hr5 := (HM.rdr.alloc (.cells #[.slice A2 y.length c2] 26)).grown hg5 hnr
  refine ⟨by simp [hlen], by have := HM.le; omega, HM.lst, ownsRow_setCell_below ho5 (a := ⟨pb, 1, none⟩) (by simp; omega) _, hC.add HM.cap, hR5.set_ (by omega) _, ht5.set_ 1 _, ((HM.wid.stay (newBl _ _)).grow hg5 hv5).set_ (by omega) _, ?_, ?_⟩
  · have := Blk.far hr5 (p := ⟨pb, 1, none⟩) (by simp; omega) (.slice A5 (j + 1) c5)
    rw [Nat.add_assoc] at this
    exact this
  · exact grown_setCell (grown_then HM.gr hbel) (.inl rfl) _

set_option maxRecDepth 100000 in
set_option maxHeartbeats 4000000 in
theorem clos49_any (l : List UInt8) (bb pb : Nat) (w : World) (hB : Blk w bb 9 #[.string ⟨l.toArray⟩]) (hP : Blk w pb 51 #[.slice none 0 0, .slice none 0 0]) (hl : l.length ≤ 1000000) :
    Calls Try.prog 49 #[.pointer (some ⟨bb, 0, none⟩), .pointer (some ⟨pb, 0, none⟩)] w (CPost l pb w) := by
  have cb := hB.cell 0
  have hlt := hP.lt
  have hlt2 := hB.lt
  have hR0 : Rdr (w.alloc (.cells #[.string ⟨l.toArray⟩, .int .i64 0] 61)) w.heap.size l 0 := Blk.new _ _ _
  have hP0 := hP.alloc (.cells #[.string ⟨l.toArray⟩, .int .i64 0] 61)
  have hG0 : Below w.heap.size w (w.alloc (.cells #[.string ⟨l.toArray⟩, .int .i64 0] 61)) := (Below.refl _ _).alloc (Nat.le_refl _) _
  have hs0 : w.heap.size + 1 = (w.alloc (.cells #[.string ⟨l.toArray⟩, .int .i64 0] 61)).heap.size := by simp
  cases hW : readL l with
  | error c =>
    have E1 := Lib.hid (show readL (l.drop 0) = .error c from hW)
    have HE := Lib.hid (bodyT_w hW)
    clear hW
    go_enter Try.func49, Try.ntmps49
    go_wp2_with fail
    clear cb
    obtain ⟨W, hW⟩ : ∃ W, W = w.alloc (.cells #[.string ⟨l.toArray⟩, .int .i64 0] 61) := ⟨_, rfl⟩
    rw [← hW] at hR0 hP0 hG0 hs0 ⊢
    clear hW
    refine (list_err l 0 w.heap.size c W hR0 (by omega) hl E1.out).mono ?_
    rintro e w1 ⟨rfl, _, hg1⟩
    exact ⟨rfl, cpost_err HE.out (grown_of_below (hG0.trans (grown_below (B := w.heap.size) hg1 (Nat.le_refl _) (by omega))) _)⟩
  | ok r =>
    obtain ⟨ws, k0⟩ := r
    have E1 := Lib.hid (show readL (l.drop 0) = .ok (ws, k0) from hW)
    have HW := Lib.hid hW
    have hk0 := readL_le E1.out (by omega)
    have hwl : ws.length ≤ 1000000 := by have := readL_len hW; omega
    clear hW
    go_enter Try.func49, Try.ntmps49
    go_wp2_with fail
    clear cb
    obtain ⟨W, hW⟩ : ∃ W, W = w.alloc (.cells #[.string ⟨l.toArray⟩, .int .i64 0] 61) := ⟨_, rfl⟩
    rw [← hW] at hR0 hP0 hG0 hs0 ⊢
    clear hW
    refine (list_ok l 0 w.heap.size ws k0 W hR0 (by omega) hl E1.out).mono ?_
    rintro e w1 ⟨v1, rfl, ho1, hR1, hg1⟩
    rw [Nat.zero_add] at hR1 hk0
    obtain ⟨A, c, rfl, hcap, hrd⟩ := val_of_own ho1
    have hP1 := hP0.grown hg1 (by intro e; injection e; omega)
    have hs1 : w.heap.size + 1 ≤ w1.heap.size := by have := hg1.size; omega
    have hw1 : RowsIn w1 (w.heap.size + 1) [.slice A ws.length c] [ws] none := RowsIn.one hrd (fun ad ha h0 => ⟨by have := own_loc ho1 h0 ad ha; omega, by simp⟩)
    have B1 := hG0.trans (grown_below (B := w.heap.size) hg1 (Nat.le_refl _) (by omega))
    clear ho1 hR0 hP0 hrd hG0 hg1
    have z0 := hP1.cell 0
    have f0 := hP1.frozen 0
    have hP2 := hP1.set_ 0 (.slice A ws.length c)
    have HP2 := Lib.hid (show Blk (w1.setCell ⟨pb, 0, none⟩ (.slice A ws.length c)) pb 51 #[.slice A ws.length c, .slice none 0 0] from hP2)
    have c0 := HP2.out.cell 0
    have HW2 := Lib.hid (hw1.set_ (b := pb) (i := 0) (by omega) (.slice A ws.length c))
    have HR2 : Hid (Rdr (w1.setCell ⟨pb, 0, none⟩ (.slice A ws.length c)) w.heap.size l k0) := Blk.far hR1 (by simp; omega) _
    have HG2 := Lib.hid (grown_setCell (grown_of_below B1 (some pb)) (p := ⟨pb, 0, none⟩) (.inl rfl) (.slice A ws.length c))
    clear hP1 hw1 hR1 B1 hP2
    go_wp2
    obtain ⟨W2, hW2⟩ : ∃ W, W = w1.setCell ⟨pb, 0, none⟩ (.slice A ws.length c) := ⟨_, rfl⟩
    have hs2 : w.heap.size + 1 ≤ W2.heap.size := by rw [hW2]; simpa [World.setCell] using hs1
    rw [← hW2] at HP2 HW2 HR2 HG2 ⊢
    clear hW2 z0 f0 c0
    go_loopw [13] (fun i wr => ∃ j m vs ls v, j ≤ ws.length + 1 ∧ i = .int .i64 (j : Int) ∧ TcRel l ws k0 pb A c w j m vs ls v wr) (fun i _ => ws.length + 1 - (intOf i).toNat)
    case atStart => exact ⟨0, 0, [], [], _, by omega, rfl, rfl, by omega, by rw [preL_nil]; simp, World.ownsRow_nil _ _ _ _, Capped.nil, RowsIn.nil _ _ _, HP2.out, HW2.out, HR2.out, HG2.out⟩
    case round =>
      obtain ⟨j, m, vs, ls, v, hj, rfl, HT⟩ := hrel
      have HT := Lib.hid HT
      have hsr : w.heap.size + 1 ≤ wr.heap.size := HT.out.rdr.lt
      have e1 := HT.out.tb.cell 1
      have hle := HT.out.le
      by_cases hlt : j < ws.length + 1
      · have hdd : (l.drop k0).drop m = l.drop (k0 + m) := by rw [List.drop_drop]
        have e0 : wr.drew.cell? ⟨pb, 1, none⟩ = some v := e1
        have CL : Hid ((∃ c2, Calls Try.prog 40 #[.pointer (some ⟨w.heap.size, 0, none⟩)] wr.drew fun e u => e = .panicked (stopV c2) ∧ CPost l pb w (.panicked (stopV c2)) u) ∨
            ∃ y k, Calls Try.prog 40 #[.pointer (some ⟨w.heap.size, 0, none⟩)] wr.drew fun e u => ∃ A2 c2, e = .returned (.slice A2 y.length c2) ∧ TcMid l ws k0 pb A c w j m vs ls v y k A2 c2 u) := by
          have hgw : ∀ u, wr.drew.grownBy u (some w.heap.size) → w.grownBy u (some pb) := fun u hg => grown_then HT.out.gr (grown_below (B := w.heap.size) (grown_undrew hg) (Nat.le_refl _) (by omega))
          cases hL : readL (l.drop (k0 + m)) with
          | error c2 =>
            refine Or.inl ⟨c2, (list_any l (k0 + m) w.heap.size wr.drew HT.out.rdr hle hl).mono ?_⟩
            rintro e u ⟨hg, hpost⟩
            rw [hL] at hpost
            refine ⟨hpost.1, cpost_err (bodyT_l HW.out ?_) (hgw u hg)⟩
            rw [HT.out.lst, show ws.length + 1 - j = (ws.length + 1 - j - 1) + 1 by omega, preL_err ls m _ (l.drop k0) c2 (by rw [hdd]; exact hL)]
          | ok r2 =>
            obtain ⟨y, k⟩ := r2
            refine Or.inr ⟨y, k, (list_any l (k0 + m) w.heap.size wr.drew HT.out.rdr hle hl).mono ?_⟩
            rintro e u ⟨hg, hpost⟩
            have hgr := grown_undrew hg
            rw [hL] at hpost
            obtain ⟨v2, rfl, ho, hR⟩ := hpost
            obtain ⟨A2, c2, rfl, hc2, hr2⟩ := val_of_own ho
            refine ⟨A2, c2, rfl, readL_le hL hle, ?_, hc2, hr2, fun ad ha h0 => ?_, own_kept HT.out.own hgr (by omega), HT.out.rows.far hgr (by omega), HT.out.wid.far hgr (by omega), HT.out.tb.grown hgr (by intro e; injection e; omega), hR, hgw u hg⟩
            · rw [HT.out.lst, show ws.length + 1 - j = (ws.length + 1 - (j + 1)) + 1 by omega, preL_ok ls m _ (l.drop k0) y k (by rw [hdd]; exact hL)]
            · have h1' : wr.heap.size ≤ ad.block := own_loc ho h0 ad ha
              refine ⟨by omega, fun e => ?_⟩
              have := (HT.out.own.lt _ e).2
              omega
        clear hdd
        go_wp2_with fail
        have CC : Hid ((∃ c2, Calls Try.prog 40 #[.pointer (some ⟨w.heap.size, 0, none⟩)] wr.drew fun e u => e = .panicked (stopV c2) ∧ CPost l pb w (.panicked (stopV c2)) u) ∨
            ∃ y k, Calls Try.prog 40 #[.pointer (some ⟨w.heap.size, 0, none⟩)] wr.drew fun e u => ∃ A2 c2, e = .returned (.slice A2 y.length c2) ∧ TcMid l ws k0 pb A c w j m vs ls v y k A2 c2 u) := CL.out
        have hnb : some pb ≠ v.ownBlock := fun e => by have := (HT.out.own.lt _ e.symm).1; omega
        rcases CC.out with ⟨c2, C1⟩ | ⟨y, k, C1⟩
        · have C1 := Lib.hid C1
          clear CC CL
          refine wp_region_any (by kernel_rfl) ?_
          change wpAny _ _ _ _ _ _ _ (World.drew _)
          refine wpAny_take (i := 0) (v := .pointer (some ⟨pb, 1, none⟩)) rfl (by kernel_rfl) (by kernel_rfl) (by kernel_rfl) (fun _ _ _ h => h) (Or.inl ⟨by rfl, by intro w; go_simp⟩) ?_
          refine wpAny_take (i := 2) (v := .pointer (some ⟨w.heap.size, 0, none⟩)) rfl (by kernel_rfl) (by kernel_rfl) (by kernel_rfl) (fun _ _ _ h => h) (Or.inl ⟨by rfl, by intro w; go_simp⟩) ?_
          refine wpAny_ready (rs := [1, 3]) (by kernel_rfl) (by simp) ?_
          refine AllReady.cons rfl (fun K hK => ?_) ?_
          · go_simp
            refine hK _ _ ?_
            clear hK K
            refine wpAny_ready (rs := [3]) (by kernel_rfl) (by simp) ?_
            refine AllReady.cons rfl (fun K hK => ?_) AllReady.nil
            go_simp
            refine C1.out.mono ?_
            rintro e u ⟨rfl, hp⟩
            exact ⟨rfl, hp⟩
          · refine AllReady.cons rfl (fun K hK => ?_) AllReady.nil
            go_simp
            refine C1.out.mono ?_
            rintro e u ⟨rfl, hp⟩
            exact ⟨rfl, hp⟩
        · have C1 := Lib.hid C1
          clear CC CL
          refine wp_region_any (by kernel_rfl) ?_
          change wpAny _ _ _ _ _ _ _ (World.drew _)
          refine wpAny_take (i := 0) (v := .pointer (some ⟨pb, 1, none⟩)) rfl (by kernel_rfl) (by kernel_rfl) (by kernel_rfl) (fun _ _ _ h => h) (Or.inl ⟨by rfl, by intro w; go_simp⟩) ?_
          refine wpAny_take (i := 2) (v := .pointer (some ⟨w.heap.size, 0, none⟩)) rfl (by kernel_rfl) (by kernel_rfl) (by kernel_rfl) (fun _ _ _ h => h) (Or.inl ⟨by rfl, by intro w; go_simp⟩) ?_
          refine wpAny_ready (rs := [1, 3]) (by kernel_rfl) (by simp) ?_
          refine AllReady.cons rfl (fun K hK => ?_) ?_
          · go_simp
            refine hK _ _ ?_
            clear hK K
            refine wpAny_ready (rs := [3]) (by kernel_rfl) (by simp) ?_
            refine AllReady.cons rfl (fun K hK => ?_) AllReady.nil
            go_simp
            refine C1.out.mono ?_
            rintro e w2 ⟨A2, c2, rfl, HM⟩
            have e2 := HM.tb.cell 1
            have HM := Lib.hid HM
            have hw2 := HM.out.tb.lt
            refine hK _ _ ?_
            clear hK K
            refine wpAny_ready (rs := [4]) (by kernel_rfl) (by simp) ?_
            refine AllReady.cons rfl (fun K hK => ?_) AllReady.nil
            go_simp
            refine hK _ _ ?_
            clear hK K
            refine wpAny_ready (rs := [5]) (by kernel_rfl) (by simp) ?_
            refine AllReady.cons rfl (fun K hK => ?_) AllReady.nil
            refine step_appRow (by rfl) (.tmp 16) (.tmp 19) (by rfl) v j vs ls (by rfl) (HM.out.own.alloc _) ⟨w2.heap.size, 0, none⟩ A2 c2 y (by rfl) (cell_one_new _ _ _ 0 _ rfl) (HM.out.rows.stay (newBl _ _)) (stayR HM.out.rd (newBl _ _)) HM.out.ne (by omega) (by simp; have := HM.out.rdr.lt; omega) ?_
            intro v5 w5 ho5 hR5 hg5 hv5
            refine hK _ _ ?_
            clear hK K
            obtain ⟨A5, c5, rfl, hc5, _⟩ := val_of_own ho5
            have ht5 := (HM.out.tb.alloc (.cells #[.slice A2 y.length c2] 26)).grown hg5 hnb
            have e5 : w5.cell? ⟨pb, 1, none⟩ = some v := ht5.cell 1
            have f5 := ht5.frozen 1
            refine wpAny_take (i := 6) (v := .pointer (some ⟨pb, 1, none⟩)) rfl (by kernel_rfl) (by kernel_rfl) (by kernel_rfl) (fun _ _ _ h => h) (Or.inl ⟨by rfl, by intro w; go_simp⟩) ?_
            refine wpAny_ready (rs := [7]) (by kernel_rfl) (by simp) ?_
            refine AllReady.cons rfl (fun K hK => ?_) AllReady.nil
            go_simp
            refine hK _ _ ?_
            clear hK K
            refine wpAny_done (by kernel_rfl) ?_ _
            have HN := Lib.hid (tc_next HM.out HT.out.cap HT.out.len (by omega) ho5 hR5 hg5 hv5)
            clear ho5 hR5 hg5 hv5 ht5 e5 f5 C1
            go_wp2
            go_roundw
            case rel => exact ⟨j + 1, m + k, _, _, _, by omega, by go_num, HN.out⟩
            case measure => simp [intOf]; omega
          · refine AllReady.cons rfl (fun K hK => ?_) AllReady.nil
            go_simp
            refine C1.out.mono ?_
            rintro e w2 ⟨A2, c2, rfl, HM⟩
            have e2 := HM.tb.cell 1
            have HM := Lib.hid HM
            have hw2 := HM.out.tb.lt
            refine hK _ _ ?_
            clear hK K
            refine wpAny_ready (rs := [1, 4]) (by kernel_rfl) (by simp) ?_
            refine AllReady.cons rfl (fun K hK => ?_) ?_
            · go_simp
              refine hK _ _ ?_
              clear hK K
              refine wpAny_ready (rs := [4]) (by kernel_rfl) (by simp) ?_
              refine AllReady.cons rfl (fun K hK => ?_) AllReady.nil
              go_simp
              refine hK _ _ ?_
              clear hK K
              refine wpAny_ready (rs := [5]) (by kernel_rfl) (by simp) ?_
              refine AllReady.cons rfl (fun K hK => ?_) AllReady.nil
              refine step_appRow (by rfl) (.tmp 16) (.tmp 19) (by rfl) v j vs ls (by rfl) (HM.out.own.alloc _) ⟨w2.heap.size, 0, none⟩ A2 c2 y (by rfl) (cell_one_new _ _ _ 0 _ rfl) (HM.out.rows.stay (newBl _ _)) (stayR HM.out.rd (newBl _ _)) HM.out.ne (by omega) (by simp; have := HM.out.rdr.lt; omega) ?_
              intro v5 w5 ho5 hR5 hg5 hv5
              refine hK _ _ ?_
              clear hK K
              obtain ⟨A5, c5, rfl, hc5, _⟩ := val_of_own ho5
              have ht5 := (HM.out.tb.alloc (.cells #[.slice A2 y.length c2] 26)).grown hg5 hnb
              have e5 : w5.cell? ⟨pb, 1, none⟩ = some v := ht5.cell 1
              have f5 := ht5.frozen 1
              refine wpAny_take (i := 6) (v := .pointer (some ⟨pb, 1, none⟩)) rfl (by kernel_rfl) (by kernel_rfl) (by kernel_rfl) (fun _ _ _ h => h) (Or.inl ⟨by rfl, by intro w; go_simp⟩) ?_
              refine wpAny_ready (rs := [7]) (by kernel_rfl) (by simp) ?_
              refine AllReady.cons rfl (fun K hK => ?_) AllReady.nil
              go_simp
              refine hK _ _ ?_
              clear hK K
              refine wpAny_done (by kernel_rfl) ?_ _
              have HN := Lib.hid (tc_next HM.out HT.out.cap HT.out.len (by omega) ho5 hR5 hg5 hv5)
              clear ho5 hR5 hg5 hv5 ht5 e5 f5 C1
              go_wp2
              go_roundw
              case rel => exact ⟨j + 1, m + k, _, _, _, by omega, by go_num, HN.out⟩
              case measure => simp [intOf]; omega
            · refine AllReady.cons rfl (fun K hK => ?_) AllReady.nil
              go_simp
              refine hK _ _ ?_
              clear hK K
              refine wpAny_ready (rs := [1]) (by kernel_rfl) (by simp) ?_
              refine AllReady.cons rfl (fun K hK => ?_) AllReady.nil
              go_simp
              refine hK _ _ ?_
              clear hK K
              refine wpAny_ready (rs := [5]) (by kernel_rfl) (by simp) ?_
              refine AllReady.cons rfl (fun K hK => ?_) AllReady.nil
              refine step_appRow (by rfl) (.tmp 16) (.tmp 19) (by rfl) v j vs ls (by rfl) (HM.out.own.alloc _) ⟨w2.heap.size, 0, none⟩ A2 c2 y (by rfl) (cell_one_new _ _ _ 0 _ rfl) (HM.out.rows.stay (newBl _ _)) (stayR HM.out.rd (newBl _ _)) HM.out.ne (by omega) (by simp; have := HM.out.rdr.lt; omega) ?_
              intro v5 w5 ho5 hR5 hg5 hv5
              refine hK _ _ ?_
              clear hK K
              obtain ⟨A5, c5, rfl, hc5, _⟩ := val_of_own ho5
              have ht5 := (HM.out.tb.alloc (.cells #[.slice A2 y.length c2] 26)).grown hg5 hnb
              have e5 : w5.cell? ⟨pb, 1, none⟩ = some v := ht5.cell 1
              have f5 := ht5.frozen 1
              refine wpAny_take (i := 6) (v := .pointer (some ⟨pb, 1, none⟩)) rfl (by kernel_rfl) (by kernel_rfl) (by kernel_rfl) (fun _ _ _ h => h) (Or.inl ⟨by rfl, by intro w; go_simp⟩) ?_
              refine wpAny_ready (rs := [7]) (by kernel_rfl) (by simp) ?_
              refine AllReady.cons rfl (fun K hK => ?_) AllReady.nil
              go_simp
              refine hK _ _ ?_
              clear hK K
              refine wpAny_done (by kernel_rfl) ?_ _
              have HN := Lib.hid (tc_next HM.out HT.out.cap HT.out.len (by omega) ho5 hR5 hg5 hv5)
              clear ho5 hR5 hg5 hv5 ht5 e5 f5 C1
              go_wp2
              go_roundw
              case rel => exact ⟨j + 1, m + k, _, _, _, by omega, by go_num, HN.out⟩
              case measure => simp [intOf]; omega
      · have hje : j = ws.length + 1 := by omega
        have hls : lists (ws.length + 1) (l.drop k0) = .ok (ls, m) := by rw [HT.out.lst, hje, Nat.sub_self, lists, preL]; simp
        by_cases hend : k0 + m = l.length
        · have HE := Lib.hid (bodyT_ok HW.out hls hend)
          have Hend := Lib.hid hend
          clear hls hend
          go_wp2_with fail
          refine (end_ok l (k0 + m) w.heap.size _ HT.out.rdr Hend.out).mono ?_
          rintro e w5 ⟨rfl, q, rfl⟩
          go_wp2
          go_end0
          unfold CPost
          rw [HE.out]
          have hl1 : ls.length = j := HT.out.len
          refine ⟨rfl, A, c, v, vs, HT.out.tb.drewN q, hcap, ?_, HT.out.cap, HT.out.rows, HT.out.wid, grown_drewN HT.out.gr q⟩
          show (wr.drewN q).ownsRow (w.heap.size + 1) 26 1 v ls.length vs
          rw [hl1]; exact HT.out.own
        · have HE := Lib.hid (bodyT_end HW.out hls hend)
          have Hend := Lib.hid hend
          clear hls hend
          go_wp2_with fail
          refine (end_err l (k0 + m) w.heap.size _ HT.out.rdr Hend.out).mono ?_
          rintro e w5 ⟨rfl, hb5⟩
          exact ⟨rfl, cpost_err HE.out (grown_trans_below HT.out.gr hb5)⟩
end Go.Proofs.Ythpngcfggnhdjaa
