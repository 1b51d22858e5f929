/- utf16text.Bytes and its closure. -/
import Derived.Test.YtbcbmmgfdobdiaaDoorU16E
namespace Go.Proofs.YtbcbmmgfdobdiaaDoor
open Go.RowKit

def pairB (u : Int) (big : Bool) : List UInt8 := if big = true then [UInt8.ofNat (u.toNat / 256), UInt8.ofNat (u.toNat % 256)] else [UInt8.ofNat (u.toNat % 256), UInt8.ofNat (u.toNat / 256)]
theorem Tryd.info5 : (Tryd.prog.info? 5).map (fun i => (i.zero, i.size, i.bytes)) = some (some (.int .u8 0), 1, 1) := by kernel_rfl
theorem pair_len (u : Int) (big : Bool) : (pairB u big).length = 2 := by unfold pairB; split <;> rfl

theorem reads_new2 (w : World) (o : Obj) (a b : Value) (e : TypeId) : Reads ((w.alloc o).alloc (.cells #[a, b] e)) (w.heap.size + 2) 1 (some ⟨w.heap.size + 1, 0, none⟩) 2 [a, b] := by
  have := reads_new (w.alloc o) #[a, b] e [a, b] rfl
  simpa using this

set_option maxRecDepth 100000 in
set_option maxHeartbeats 1000000 in
theorem put_any (base bb ob n : Nat) (big : Bool) (v : Value) (l : List UInt8) (u : Int) (w : World) (hu0 : 0 ≤ u) (hu1 : u ≤ 65535)
    (hbb : Blk w bb 4 #[.bool big]) (hob : Blk w ob 92 #[v]) (ho : w.ownsRow base 5 1 v n (l.map bv)) (h2 : ob < base) (hbase : base ≤ w.heap.size) (hn : n ≤ 1000000) :
    Calls Tryd.prog 96 #[.int .i64 u, .pointer (some ⟨bb, 0, none⟩), .pointer (some ⟨ob, 0, none⟩)] w fun e w' => e = .returned (.tuple #[]) ∧
      ∃ w1 v', Below base w w1 ∧ w' = w1.setCell ⟨ob, 0, none⟩ v' ∧ w1.ownsRow base 5 1 v' (n + 2) ((l ++ pairB u big).map bv) := by
  obtain ⟨i0, hi, hz0, hz1, hz2⟩ := info_parts Tryd.info5
  obtain ⟨x, rfl⟩ := Int.eq_ofNat_of_zero_le hu0
  have hlt : bb < w.heap.size := hbb.lt
  have hlt2 : ob < w.heap.size := hob.lt
  cases big with
  | true =>
    have Hp := Lib.hid (show (pairB (x : Int) true).map bv = [.int .u8 ((x : Int) / 256), .int .u8 ((x : Int) % 256)] by
      simp only [pairB, if_true, List.map_cons, List.map_nil, Int.toNat_natCast]
      rw [bv_ofNat _ (by omega), bv_ofNat _ (by omega)]; rfl)
    have c1 := hbb.cell 0
    have c2 := hob.cell 0
    have hr2 := reads_new2 w (.cells #[.int .u8 ((x : Int) / 256), .int .u8 ((x : Int) % 256)] 135) (.int .u8 ((x : Int) / 256)) (.int .u8 ((x : Int) % 256)) 5
    have ho2 := (ho.alloc (.cells #[.int .u8 ((x : Int) / 256), .int .u8 ((x : Int) % 256)] 135)).alloc (.cells #[.int .u8 ((x : Int) / 256), .int .u8 ((x : Int) % 256)] 5)
    go_enter Tryd.func96, Tryd.ntmps96
    go_wp2_with (at_builtin; go_must (refine wpList_appR rfl (.tmp 19) (.tmp 24) 92 rfl Tryd.underlying92 hi hz0 hz1 hz2 rfl (by omega) _ v _ _ rfl ho2 rfl hr2 (by simp [Value.oneCell']) (by omega) (by simp; omega) ?_))
    intro v3 w3 ho3 hB3 _
    have hob3 : Blk w3 ob 92 #[v] := ((hob.alloc _).alloc _).below hB3 h2
    have d1 := hob3.cell 0
    have f1 := hob3.frozen 0
    obtain ⟨A3, c3, rfl, _, _⟩ := val_of_own ho3
    go_wp2
    go_end0
    exact ⟨rfl, w3, _, (((Below.refl _ _).alloc hbase _).alloc (by simp; omega) _).trans hB3, rfl, by rw [List.map_append, Hp.out]; exact ho3⟩
  | false =>
    have Hp := Lib.hid (show (pairB (x : Int) false).map bv = [.int .u8 ((x : Int) % 256), .int .u8 ((x : Int) / 256)] by
      simp only [pairB, Bool.false_eq_true, if_false, List.map_cons, List.map_nil, Int.toNat_natCast]
      rw [bv_ofNat _ (by omega), bv_ofNat _ (by omega)]; rfl)
    have c1 := hbb.cell 0
    have c2 := hob.cell 0
    have hr2 := reads_new2 w (.cells #[.int .u8 ((x : Int) % 256), .int .u8 ((x : Int) / 256)] 135) (.int .u8 ((x : Int) % 256)) (.int .u8 ((x : Int) / 256)) 5
    have ho2 := (ho.alloc (.cells #[.int .u8 ((x : Int) % 256), .int .u8 ((x : Int) / 256)] 135)).alloc (.cells #[.int .u8 ((x : Int) % 256), .int .u8 ((x : Int) / 256)] 5)
    go_enter Tryd.func96, Tryd.ntmps96
    go_wp2_with (at_builtin; go_must (refine wpList_appR rfl (.tmp 19) (.tmp 24) 92 rfl Tryd.underlying92 hi hz0 hz1 hz2 rfl (by omega) _ v _ _ rfl ho2 rfl hr2 (by simp [Value.oneCell']) (by omega) (by simp; omega) ?_))
    intro v3 w3 ho3 hB3 _
    have hob3 : Blk w3 ob 92 #[v] := ((hob.alloc _).alloc _).below hB3 h2
    have d1 := hob3.cell 0
    have f1 := hob3.frozen 0
    obtain ⟨A3, c3, rfl, _, _⟩ := val_of_own ho3
    go_wp2
    go_end0
    exact ⟨rfl, w3, _, (((Below.refl _ _).alloc hbase _).alloc (by simp; omega) _).trans hB3, rfl, by rw [List.map_append, Hp.out]; exact ho3⟩

def preB (xs : List UInt8) : Except Nat (List UInt8) → Except Nat (List UInt8)
  | .error e => .error e
  | .ok ys => .ok (xs ++ ys)
theorem preB_preB (xs ys : List UInt8) (r : Except Nat (List UInt8)) : preB xs (preB ys r) = preB (xs ++ ys) r := by
  cases r <;> simp [preB]
def byt16 (big : Bool) : Nat → List Int → Except Nat (List UInt8)
  | _, [] => .ok []
  | i, u :: l => if 0 ≤ u ∧ u ≤ 65535 then preB (pairB u big) (byt16 big (i + 1) l) else .error i
def outB : Except Nat (List UInt8) → List UInt8 × Int × Int
  | .ok o => (o, 0, 0)
  | .error i => ([], 1, (i : Int))
def markB (big mark : Bool) : List UInt8 := if mark = true then pairB 65279 big else []
def bytR (l : List Int) (big mark : Bool) : List UInt8 × Int × Int := outB (preB (markB big mark) (byt16 big 0 l))

def BytRel (w : World) (l : List Int) (big mark : Bool) (i : Value) (wr : World) : Prop :=
  ∃ (k : Nat) (v : Value) (out : List UInt8), k ≤ l.length ∧ i = .int .i64 (k : Int) ∧ out.length ≤ 2 * k + 2 ∧ preB (markB big mark) (byt16 big 0 l) = preB out (byt16 big k (l.drop k)) ∧
    Blk wr w.heap.size 4 #[.bool big] ∧ fltB wr (w.heap.size + 1) 0 0 ∧ Blk wr (w.heap.size + 1 + 1) 92 #[v] ∧ wr.ownsRow (w.heap.size + 3) 5 1 v out.length (out.map bv) ∧ Below w.heap.size w wr ∧ w.heap.size + 3 ≤ wr.heap.size

theorem byt_put {w wr w1 : World} {l : List Int} {big mark : Bool} {out add : List UInt8} {v' : Value} {k' : Nat} {i : Value} (hk' : k' ≤ l.length) (hi : i = .int .i64 (k' : Int)) (hl : (out ++ add).length ≤ 2 * k' + 2)
    (he : preB (markB big mark) (byt16 big 0 l) = preB (out ++ add) (byt16 big k' (l.drop k')))
    (hb : Blk wr w.heap.size 4 #[.bool big]) (hF : fltB wr (w.heap.size + 1) 0 0) {v : Value} (hv : Blk wr (w.heap.size + 1 + 1) 92 #[v]) (hB : Below w.heap.size w wr) (hsz : w.heap.size + 3 ≤ wr.heap.size)
    (hB1 : Below (w.heap.size + 3) wr w1) (ho : w1.ownsRow (w.heap.size + 3) 5 1 v' (out ++ add).length ((out ++ add).map bv)) :
    BytRel w l big mark i (w1.setCell ⟨w.heap.size + 1 + 1, 0, none⟩ v') := by
  refine ⟨k', v', out ++ add, hk', hi, hl, he, (hb.below hB1 (by omega)).far (by simp; omega) _, Blk.far (Blk.below hF hB1 (by omega)) (by simp) _, (hv.below hB1 (by omega)).set_ 0 v', ownsRow_setCell_below ho (by simp) _, (hB.trans (hB1.mono (by omega))).setCell (by simp; omega) _, ?_⟩
  have := hB1.size
  simp [World.setCell]; omega

set_option maxRecDepth 100000 in
set_option maxHeartbeats 2000000 in
theorem bytes_any (B n cap : Nat) (A : Option Addr) (l : List Int) (big mark : Bool) (w : World) (h : Reads w B 1 A n (l.map iv)) (hB : B ≤ w.heap.size) (hn : n ≤ 100000) :
    Calls Tryd.prog 74 #[.slice A n cap, .bool big, .bool mark] w fun e w' => e = .returned (.tuple #[.string ⟨(bytR l big mark).1.toArray⟩, .agg #[.int .i64 (bytR l big mark).2.1, .int .i64 (bytR l big mark).2.2]]) ∧ Below w.heap.size w w' := by
  have hmf : ∀ (fn : Fn) (first cap : Array Value) (w : World), (Instr.makeFunc fn first cap).run Tryd.prog w = .ok (.func fn first cap) w := fun _ _ _ _ => rfl
  have hl : l.length = n := by have := h.1; simpa using this
  have Hl := Lib.hid hl
  clear hl
  have hbl0 := (((Blk.new w 4 #[.bool big]).alloc (.cells #[.int .i64 0, .int .i64 0] 37)).alloc (.cells #[.slice none 0 0] 92))
  have hbl1 : fltB (((w.alloc (.cells #[.bool big] 4)).alloc (.cells #[.int .i64 0, .int .i64 0] 37)).alloc (.cells #[.slice none 0 0] 92)) (w.heap.size + 1) 0 0 := by
    have := (Blk.new (w.alloc (.cells #[.bool big] 4)) 37 #[.int .i64 0, .int .i64 0]).alloc (.cells #[.slice none 0 0] 92)
    simpa [fltB] using this
  have hbl2 : Blk (((w.alloc (.cells #[.bool big] 4)).alloc (.cells #[.int .i64 0, .int .i64 0] 37)).alloc (.cells #[.slice none 0 0] 92)) (w.heap.size + 1 + 1) 92 #[.slice none 0 0] := by
    have := (Blk.new ((w.alloc (.cells #[.bool big] 4)).alloc (.cells #[.int .i64 0, .int .i64 0] 37)) 92 #[.slice none 0 0])
    simpa using this
  have hblB : Below w.heap.size w (((w.alloc (.cells #[.bool big] 4)).alloc (.cells #[.int .i64 0, .int .i64 0] 37)).alloc (.cells #[.slice none 0 0] 92)) := (((Below.refl _ _).alloc (Nat.le_refl _) _).alloc (by simp) _).alloc (by simp; omega) _
  obtain ⟨W, hW⟩ : ∃ W, W = (((w.alloc (.cells #[.bool big] 4)).alloc (.cells #[.int .i64 0, .int .i64 0] 37)).alloc (.cells #[.slice none 0 0] 92)) := ⟨_, rfl⟩
  have hWs : w.heap.size + 3 ≤ W.heap.size := by rw [hW]; simp
  rw [← hW] at hbl0 hbl1 hbl2 hblB
  have HW := Lib.hid hW
  clear hW
  cases mark with
  | false =>
    go_enter Tryd.func74, Tryd.ntmps74
    go_wp2_with fail
    rw [← HW.out]
    go_loopw [18] (fun i wr => BytRel w l big false i wr) (fun i _ => n - (intOf i).toNat)
    case atStart => exact ⟨0, _, [], Nat.zero_le _, rfl, by simp, rfl, hbl0, hbl1, hbl2, World.ownsRow_nil _ _ _ _, hblB, hWs⟩
    case round =>
      obtain ⟨k, v, out, hk, rfl, hol, he, hb1, hF, hv, ho, hb, hsz⟩ := hrel
      rw [Hl.out] at hk
      have Hee := Lib.hid he
      clear he
      by_cases hlt : k < n
      · obtain ⟨ad, uu, rfl, hadB, hu, hcell⟩ := (h.below (hb.mono hB)).at_ hlt
        obtain ⟨u, hc, rfl⟩ := iv_at hu
        have Hdr := Lib.hid (drop_at hc)
        have hkl : k < l.length := by rw [Hl.out]; exact hlt
        clear hu hc
        by_cases hur : 0 ≤ u ∧ u ≤ 65535
        · have Hst := Lib.hid (show byt16 big k (l.drop k) = preB (pairB u big) (byt16 big (k + 1) (l.drop (k + 1))) by rw [Hdr.out, byt16, if_pos hur])
          obtain ⟨hu0, hu1⟩ := hur
          have hu0' : ¬ u < 0 := by omega
          have hu1' : ¬ 65535 < u := by omega
          have hpl := pair_len u big
          have Hpl := Lib.hid hpl
          clear hpl
          go_wp2_with fail
          refine (put_any (w.heap.size + 3) w.heap.size (w.heap.size + 1 + 1) out.length big v out u wr hu0 hu1 hb1 hv ho (by omega) hsz (by omega)).mono ?_
          rintro e w' ⟨rfl, w3, v3, hB3, rfl, ho3⟩
          go_wp2
          go_roundw
          case rel => exact byt_put (k' := k + 1) (out := out) (add := pairB u big) (by omega) (by go_num) (by rw [List.length_append, Hpl.out]; omega) (by rw [Hee.out, Hst.out, preB_preB]) hb1 hF hv hb hsz hB3 (by rw [List.length_append, Hpl.out]; exact ho3)
          case measure => simp [intOf]; omega
        · have Herr := Lib.hid (show bytR l big false = ([], 1, (k : Int)) by rw [bytR, Hee.out, Hdr.out, byt16, if_neg hur]; rfl)
          have c0 := hF.cell 0
          have c1 := hF.cell 1
          have f0 := hF.frozen 0
          have f1 := hF.frozen 1
          have hF2 := (hF.set_ 0 (.int .i64 1)).set_ 1 (.int .i64 (k : Int))
          have d0 := hF2.cell 0
          have d1 := hF2.cell 1
          by_cases hu0 : u < 0
          · clear hur
            go_wp2
            refine bodyPost_ret (v := .tuple #[.string ⟨#[]⟩, .agg #[.int .i64 1, .int .i64 (k : Int)]]) (by simp [results, Tryd.results74, go_sem] at d0 d1 ⊢; simp [d0, d1]) rfl ⟨by rw [Herr.out], ?_⟩
            exact (hb.setCell (by simp) _).setCell (by simp) _
          · have hu1 : 65535 < u := by omega
            clear hur
            go_wp2
            refine bodyPost_ret (v := .tuple #[.string ⟨#[]⟩, .agg #[.int .i64 1, .int .i64 (k : Int)]]) (by simp [results, Tryd.results74, go_sem] at d0 d1 ⊢; simp [d0, d1]) rfl ⟨by rw [Herr.out], ?_⟩
            exact (hb.setCell (by simp) _).setCell (by simp) _
      · have Hok := Lib.hid (show bytR l big false = (out, 0, 0) by
          rw [bytR, Hee.out, List.drop_of_length_le (by rw [Hl.out]; omega), byt16]; simp [preB, outB])
        have c0 := hF.cell 0
        have c1 := hF.cell 1
        have f0 := hF.frozen 0
        have f1 := hF.frozen 1
        have hF2 := (hF.set_ 0 (.int .i64 0)).set_ 1 (.int .i64 0)
        have d0 := hF2.cell 0
        have d1 := hF2.cell 1
        have cv := hv.cell 0
        have hcv := run_convert_own Tryd.underlying92 Tryd.underlying5 Tryd.underlying9 ho
        go_wp2
        refine bodyPost_ret (v := .tuple #[.string ⟨out.toArray⟩, .agg #[.int .i64 0, .int .i64 0]]) (by simp [results, Tryd.results74, go_sem] at d0 d1 ⊢; simp [d0, d1]) rfl ⟨by rw [Hok.out], ?_⟩
        exact (hb.setCell (by simp) _).setCell (by simp) _
  | true =>
    go_enter Tryd.func74, Tryd.ntmps74
    go_wp2_with fail
    rw [← HW.out]
    refine (put_any (w.heap.size + 3) w.heap.size (w.heap.size + 1 + 1) 0 big _ [] 65279 W (by omega) (by omega) hbl0 hbl2 (World.ownsRow_nil _ _ _ _) (by omega) hWs (by omega)).mono ?_
    rintro e w' ⟨rfl, w1, v', hB1, rfl, ho1⟩
    have Hrel := Lib.hid (byt_put (l := l) (mark := true) (k' := 0) (out := []) (add := pairB 65279 big) (i := .int .i64 0) (v' := v') (by omega) rfl (by simp [pair_len]) rfl hbl0 hbl1 hbl2 hblB hWs hB1 (by simpa [pair_len] using ho1))
    clear ho1 hB1
    go_wp2_with fail
    go_loopw [18] (fun i wr => BytRel w l big true i wr) (fun i _ => n - (intOf i).toNat)
    case atStart => exact Hrel.out
    case round =>
      obtain ⟨k, v, out, hk, rfl, hol, he, hb1, hF, hv, ho, hb, hsz⟩ := hrel
      rw [Hl.out] at hk
      have Hee := Lib.hid he
      clear he
      by_cases hlt : k < n
      · obtain ⟨ad, uu, rfl, hadB, hu, hcell⟩ := (h.below (hb.mono hB)).at_ hlt
        obtain ⟨u, hc, rfl⟩ := iv_at hu
        have Hdr := Lib.hid (drop_at hc)
        have hkl : k < l.length := by rw [Hl.out]; exact hlt
        clear hu hc
        by_cases hur : 0 ≤ u ∧ u ≤ 65535
        · have Hst := Lib.hid (show byt16 big k (l.drop k) = preB (pairB u big) (byt16 big (k + 1) (l.drop (k + 1))) by rw [Hdr.out, byt16, if_pos hur])
          obtain ⟨hu0, hu1⟩ := hur
          have hu0' : ¬ u < 0 := by omega
          have hu1' : ¬ 65535 < u := by omega
          have hpl := pair_len u big
          have Hpl := Lib.hid hpl
          clear hpl
          go_wp2_with fail
          refine (put_any (w.heap.size + 3) w.heap.size (w.heap.size + 1 + 1) out.length big v out u wr hu0 hu1 hb1 hv ho (by omega) hsz (by omega)).mono ?_
          rintro e w' ⟨rfl, w3, v3, hB3, rfl, ho3⟩
          go_wp2
          go_roundw
          case rel => exact byt_put (k' := k + 1) (out := out) (add := pairB u big) (by omega) (by go_num) (by rw [List.length_append, Hpl.out]; omega) (by rw [Hee.out, Hst.out, preB_preB]) hb1 hF hv hb hsz hB3 (by rw [List.length_append, Hpl.out]; exact ho3)
          case measure => simp [intOf]; omega
        · have Herr := Lib.hid (show bytR l big true = ([], 1, (k : Int)) by rw [bytR, Hee.out, Hdr.out, byt16, if_neg hur]; rfl)
          have c0 := hF.cell 0
          have c1 := hF.cell 1
          have f0 := hF.frozen 0
          have f1 := hF.frozen 1
          have hF2 := (hF.set_ 0 (.int .i64 1)).set_ 1 (.int .i64 (k : Int))
          have d0 := hF2.cell 0
          have d1 := hF2.cell 1
          by_cases hu0 : u < 0
          · clear hur
            go_wp2
            refine bodyPost_ret (v := .tuple #[.string ⟨#[]⟩, .agg #[.int .i64 1, .int .i64 (k : Int)]]) (by simp [results, Tryd.results74, go_sem] at d0 d1 ⊢; simp [d0, d1]) rfl ⟨by rw [Herr.out], ?_⟩
            exact (hb.setCell (by simp) _).setCell (by simp) _
          · have hu1 : 65535 < u := by omega
            clear hur
            go_wp2
            refine bodyPost_ret (v := .tuple #[.string ⟨#[]⟩, .agg #[.int .i64 1, .int .i64 (k : Int)]]) (by simp [results, Tryd.results74, go_sem] at d0 d1 ⊢; simp [d0, d1]) rfl ⟨by rw [Herr.out], ?_⟩
            exact (hb.setCell (by simp) _).setCell (by simp) _
      · have Hok := Lib.hid (show bytR l big true = (out, 0, 0) by
          rw [bytR, Hee.out, List.drop_of_length_le (by rw [Hl.out]; omega), byt16]; simp [preB, outB])
        have c0 := hF.cell 0
        have c1 := hF.cell 1
        have f0 := hF.frozen 0
        have f1 := hF.frozen 1
        have hF2 := (hF.set_ 0 (.int .i64 0)).set_ 1 (.int .i64 0)
        have d0 := hF2.cell 0
        have d1 := hF2.cell 1
        have cv := hv.cell 0
        have hcv := run_convert_own Tryd.underlying92 Tryd.underlying5 Tryd.underlying9 ho
        go_wp2
        refine bodyPost_ret (v := .tuple #[.string ⟨out.toArray⟩, .agg #[.int .i64 0, .int .i64 0]]) (by simp [results, Tryd.results74, go_sem] at d0 d1 ⊢; simp [d0, d1]) rfl ⟨by rw [Hok.out], ?_⟩
        exact (hb.setCell (by simp) _).setCell (by simp) _
end Go.Proofs.YtbcbmmgfdobdiaaDoor
