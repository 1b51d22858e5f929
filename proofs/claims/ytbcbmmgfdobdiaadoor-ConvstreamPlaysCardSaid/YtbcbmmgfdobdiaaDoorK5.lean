/- A coder's step, through the interface and as a function's value. -/
import Derived.Test.YtbcbmmgfdobdiaaDoorK4
namespace Go.Proofs.YtbcbmmgfdobdiaaDoor
open Go.RowKit

theorem meth_u8 (s : Value) (w : World) : (callMethod (.iface 103 (.agg #[])) "unicodetext/convert.step" #[s]).run Tryd.prog w = .ok (.enter 127 #[.agg #[], s]) w := by kernel_rfl
theorem meth_u16 (big : Bool) (s : Value) (w : World) : (callMethod (.iface 105 (.agg #[.bool big])) "unicodetext/convert.step" #[s]).run Tryd.prog w = .ok (.enter 131 #[.agg #[.bool big], s]) w := by kernel_rfl
theorem meth_one (x y : Value) (s : Value) (w : World) : (callMethod (.iface 108 (.agg #[x, y])) "unicodetext/convert.step" #[s]).run Tryd.prog w = .ok (.enter 135 #[.agg #[x, y], s]) w := by kernel_rfl
theorem step16_any (big : Bool) (s : List UInt8) (w : World) (hs : s.length ≤ 1000000) (hdg : Dig w) :
    Calls Tryd.prog 131 #[.agg #[.bool big], .string ⟨s.toArray⟩] w fun e w' => e = .returned (trip64 (step16 big s)) ∧ Below w.heap.size w w' := by
  by_cases h2 : s.length < 2
  · exact stepU16_short big s w hs h2
  · obtain ⟨a, ha⟩ : ∃ a, s[0]? = some a := ⟨_, List.getElem?_eq_getElem (by omega)⟩
    obtain ⟨b, hb⟩ : ∃ b, s[1]? = some b := ⟨_, List.getElem?_eq_getElem (by omega)⟩
    cases hsur : sur (unit2 big a b) with
    | false => exact stepU16_low big s a b w hs ha hb hsur
    | true =>
      by_cases h4 : s.length < 4
      · exact stepU16_mid big s a b w hs ha hb hsur h4
      · obtain ⟨c, hc⟩ : ∃ c, s[2]? = some c := ⟨_, List.getElem?_eq_getElem (by omega)⟩
        obtain ⟨d, hd⟩ : ∃ d, s[3]? = some d := ⟨_, List.getElem?_eq_getElem (by omega)⟩
        by_cases h5 : unit2 big a b ≤ 56319 ∧ 56320 ≤ unit2 big c d ∧ unit2 big c d ≤ 57343
        · exact stepU16_yes big s a b c d w hs ha hb hc hd hsur h5 hdg
        · exact stepU16_no big s a b c d w hs ha hb hc hd hsur h5 hdg
/-- the method that a coder's value leads to -/
theorem meth_K {w : World} {K : Cd} {v : Value} (h : CdV w K v) (s : List UInt8) (hs : s.length ≤ 1000000) (hdg : Dig w) :
    ∃ f args, (∀ u : World, (callMethod v "unicodetext/convert.step" #[.string ⟨s.toArray⟩]).run Tryd.prog u = .ok (.enter f args) u) ∧
      ∀ u : World, Below w.heap.size w u → Calls Tryd.prog f args u fun e u' => e = .returned (trip64 (stepK K s)) ∧ Below u.heap.size u u' := by
  cases K with
  | u8 =>
    have hv : v = .iface 103 (.agg #[]) := h
    subst hv
    exact ⟨_, _, fun u => meth_u8 _ u, fun u _ => stepU8 s u hs⟩
  | u16 big =>
    have hv : v = .iface 105 (.agg #[.bool big]) := h
    subst hv
    exact ⟨_, _, fun u => meth_u16 big _ u, fun u hu => step16_any big s u hs (hdg.below hu)⟩
  | one codes =>
    obtain ⟨A, cap, m, n, rfl, hr, hm⟩ := h
    exact ⟨_, _, fun u => meth_one _ _ _ u, fun u hu => stepS_any codes u.heap.size cap m A s u hs (hr.stay hu) (Nat.le_refl _)⟩
/-- 'k.step(s)' -/
theorem wpList_invokeK {ops : Array Oper} {rest : List Oper} {o : Oper} {a : Act} {Q : Exit → Act → World → Prop} (hgd : o.guard = none) (x y : Operand) (ts : Array TypeId)
    (ho : o.op = .call { callee := .invoke x "unicodetext/convert.step", args := #[y], argTypes := ts }) {w : World} {K : Cd} {v : Value} {s : List UInt8} (hx : a.eval x = v) (hy : a.eval y = .string ⟨s.toArray⟩) (hv : CdV w K v) (hs : s.length ≤ 1000000) (hdg : Dig w) {z m : Nat} {b : Bool} (hr : stepK K s = (z, m, b))
    (h : ∀ w', Below w.heap.size w w' → wpList Tryd.prog ops Q rest (a.put o.dst (.tuple #[.int .i64 (z : Int), .int .i64 (m : Int), .bool b])) w') : wpList Tryd.prog ops Q (o :: rest) a w := by
  refine wpList_plain hgd fun K' hK' => ?_
  obtain ⟨f, args, h1, h2⟩ := meth_K hv s hs hdg
  rw [hr] at h2
  unfold Oper.wp
  simp [execOp, ho, resolve, invoke, hx, hy, h1]
  refine (h2 w (Below.refl _ _)).mono ?_
  rintro e w' ⟨rfl, hb⟩
  exact hK' _ _ (h w' hb)
/-- 'step(s)', step a method's value -/
theorem wpList_callK {ops : Array Oper} {rest : List Oper} {o : Oper} {a : Act} {Q : Exit → Act → World → Prop} (hgd : o.guard = none) (x y : Operand) (ts : Array TypeId)
    (ho : o.op = .call { callee := .value x, args := #[y], argTypes := ts }) {w : World} {K : Cd} {v : Value} {s : List UInt8} (hx : a.eval x = .func (.method "unicodetext/convert.step") #[v] #[]) (hy : a.eval y = .string ⟨s.toArray⟩) (hv : CdV w K v) (hs : s.length ≤ 1000000) (hdg : Dig w) {z m : Nat} {b : Bool} (hr : stepK K s = (z, m, b))
    (h : ∀ w', Below w.heap.size w w' → wpList Tryd.prog ops Q rest (a.put o.dst (.tuple #[.int .i64 (z : Int), .int .i64 (m : Int), .bool b])) w') : wpList Tryd.prog ops Q (o :: rest) a w := by
  refine wpList_plain hgd fun K' hK' => ?_
  obtain ⟨f, args, h1, h2⟩ := meth_K hv s hs hdg
  rw [hr] at h2
  unfold Oper.wp
  simp [execOp, ho, resolve, invoke, Deferred.ofValue, hx, hy, h1]
  refine (h2 w (Below.refl _ _)).mono ?_
  rintro e w' ⟨rfl, hb⟩
  exact hK' _ _ (h w' hb)
/-- 'k.step(s)' inside a region that draws its order -/
theorem step_invokeK {ops : Array Oper} {o : Oper} {a : Act} {K' : Act → World → Prop} {Q : Exit → Act → World → Prop} {E : Prop} (hgd : o.guard = none) (x y : Operand) (ts : Array TypeId)
    (ho : o.op = .call { callee := .invoke x "unicodetext/convert.step", args := #[y], argTypes := ts }) {w : World} {K : Cd} {v : Value} {s : List UInt8} (hx : a.eval x = v) (hy : a.eval y = .string ⟨s.toArray⟩) (hv : CdV w K v) (hs : s.length ≤ 1000000) (hdg : Dig w) {z m : Nat} {b : Bool} (hr : stepK K s = (z, m, b))
    (h : ∀ w', Below w.heap.size w w' → K' (a.put o.dst (.tuple #[.int .i64 (z : Int), .int .i64 (m : Int), .bool b])) w') : if Region.wanted o (yielded ops a.tmps) = true then Oper.wp Tryd.prog o a w K' Q else E := by
  have hw : Region.wanted o (yielded ops a.tmps) = true := by simp [Region.wanted, hgd]
  rw [if_pos hw]
  obtain ⟨f, args, h1, h2⟩ := meth_K hv s hs hdg
  rw [hr] at h2
  unfold Oper.wp
  simp [execOp, ho, resolve, invoke, hx, hy, h1]
  refine (h2 w (Below.refl _ _)).mono ?_
  rintro e w' ⟨rfl, hb⟩
  exact h w' hb

set_option maxRecDepth 100000 in
set_option maxHeartbeats 2000000 in
theorem cstep_good (kind : Int) (A : Option Addr) (n c : Nat) (codes : List Int) (s : List UInt8) (w : World) (h : Reads w w.heap.size 1 A n (codes.map iv)) (hC : CkE kind codes 0) (hs : s.length ≤ 1000000) (hdg : Dig w) :
    Calls Tryd.prog 27 #[.agg #[.int .i64 kind, .slice A n c], .string ⟨s.toArray⟩] w fun x w' => x = .returned (trip64 (stepK (cdOf kind codes) s)) ∧ Below w.heap.size w w' := by
  have HB := Lib.hid (Blk.new w 26 #[.int .i64 kind, .slice A n c])
  have hL := below_new w (.cells #[.int .i64 kind, .slice A n c] 26)
  have HL := Lib.hid hL
  have HR := Lib.hid (h.stay hL)
  have HC := Lib.hid hC
  have g0 := HB.out.cell 0
  have g1 := HB.out.cell 1
  have HD := Lib.hid (hdg.below hL)
  clear hL h hC hdg
  go_enter Tryd.func27, Tryd.ntmps27
  go_wp2_with fail
  clear g0 g1
  obtain ⟨W, hW⟩ : ∃ W, W = w.alloc (.cells #[.int .i64 kind, .slice A n c] 26) := ⟨_, rfl⟩
  rw [← hW] at HB HL HR HD ⊢
  clear hW
  refine (open_good kind A n c codes W HR.out HC.out).mono ?_
  rintro x w1 ⟨⟨v, rfl, hv⟩, hb1⟩
  have Hv := Lib.hid hv
  have HD1 := Lib.hid (HD.out.below hb1)
  obtain ⟨⟨z, m, b⟩, hr⟩ : ∃ r, stepK (cdOf kind codes) s = r := ⟨_, rfl⟩
  have Hr := Lib.hid hr
  have HB1 := Lib.hid (HL.out.trans (hb1.mono HL.out.size))
  clear hv hr hb1
  go_wp2_with (refine wpList_invokeK rfl _ _ _ rfl rfl rfl Hv.out hs HD1.out Hr.out ?_; intro w2 hb2)
  exact bodyPost_ret (v := .tuple #[.int .i64 (z : Int), .int .i64 (m : Int), .bool b]) (by simp [results, Tryd.results27, go_sem]) rfl ⟨by rw [Hr.out]; rfl, HB1.out.trans (hb2.mono HB1.out.size)⟩

set_option maxRecDepth 100000 in
set_option maxHeartbeats 2000000 in
theorem cstep_bad (kind : Int) (A : Option Addr) (n c : Nat) (codes : List Int) (e : Int) (s : List UInt8) (w : World) (h : Reads w w.heap.size 1 A n (codes.map iv)) (hC : CkE kind codes e) (he : e ≠ 0) :
    Calls Tryd.prog 27 #[.agg #[.int .i64 kind, .slice A n c], .string ⟨s.toArray⟩] w fun x w' => x = .returned (trip64 (0, 0, false)) ∧ Below w.heap.size w w' := by
  have HB := Lib.hid (Blk.new w 26 #[.int .i64 kind, .slice A n c])
  have hL := below_new w (.cells #[.int .i64 kind, .slice A n c] 26)
  have HL := Lib.hid hL
  have HR := Lib.hid (h.stay hL)
  have HC := Lib.hid hC
  have g0 := HB.out.cell 0
  have g1 := HB.out.cell 1
  clear hL h hC
  go_enter Tryd.func27, Tryd.ntmps27
  go_wp2_with fail
  clear g0 g1
  refine (open_bad kind A n c codes e _ HR.out HC.out he).mono ?_
  rintro x w1 ⟨rfl, hb1⟩
  go_wp2
  exact bodyPost_ret (v := .tuple #[.int .i64 0, .int .i64 0, .bool false]) (by simp [results, Tryd.results27, go_sem]) rfl ⟨rfl, HL.out.trans (hb1.mono HL.out.size)⟩
end Go.Proofs.YtbcbmmgfdobdiaaDoor
