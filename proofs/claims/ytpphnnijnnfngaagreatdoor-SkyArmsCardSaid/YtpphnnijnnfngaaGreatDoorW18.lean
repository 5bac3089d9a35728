/-
  The walks of the sky's near and of sees' function.
-/
import Derived.Test.YtpphnnijnnfngaaGreatDoorW13
import Derived.Test.YtpphnnijnnfngaaGreatDoorW11
import Derived.DeepKeys4
namespace Go.Proofs.YtpphnnijnnfngaaGreatDoor
open Go.RowKit Al

/-- What near says (in numbers of 64 bits, as both the program and the specification reckon). -/
def nearW (v u : V3) (N D : Int) : Bool := decide (0 < dotW v u) && decide (wrap64 (wrap64 (N * dotW v v) * dotW u u) ≤ wrap64 (wrap64 (dotW v u * dotW v u) * D))
set_option maxRecDepth 100000 in
set_option maxHeartbeats 4000000 in
theorem near_ (v u : V3) (N D : Int) (w : World) : Calls Tryz.prog 76 #[v3 v, v3 u, .agg #[.int .i64 N, .int .i64 D]] w fun e w' => e = .returned (.bool (nearW v u N D)) ∧ Below w.heap.size w w' := by
  obtain ⟨a1, a2, a3⟩ := v
  obtain ⟨b1, b2, b3⟩ := u
  obtain ⟨n, hn⟩ : ∃ k, dotW (a1, a2, a3) (b1, b2, b3) = k := ⟨_, rfl⟩
  obtain ⟨p, hp⟩ : ∃ k, dotW (a1, a2, a3) (a1, a2, a3) = k := ⟨_, rfl⟩
  obtain ⟨q, hq⟩ : ∃ k, dotW (b1, b2, b3) (b1, b2, b3) = k := ⟨_, rfl⟩
  have e : nearW (a1, a2, a3) (b1, b2, b3) N D = (decide (0 < n) && decide (wrap64 (wrap64 (N * p) * q) ≤ wrap64 (wrap64 (n * n) * D))) := by
    unfold nearW
    rw [hn, hp, hq]
  rw [e]
  have HD1 : Hid (∀ W, Calls Tryz.prog 27 #[.agg #[.int .i64 a1, .int .i64 a2, .int .i64 a3], .agg #[.int .i64 b1, .int .i64 b2, .int .i64 b3]] W fun e w' => e = .returned (.int .i64 n) ∧ Below W.heap.size W w') := fun W => hn ▸ dotc a1 a2 a3 b1 b2 b3 W
  have HD2 : Hid (∀ W, Calls Tryz.prog 27 #[.agg #[.int .i64 a1, .int .i64 a2, .int .i64 a3], .agg #[.int .i64 a1, .int .i64 a2, .int .i64 a3]] W fun e w' => e = .returned (.int .i64 p) ∧ Below W.heap.size W w') := fun W => hp ▸ dotc a1 a2 a3 a1 a2 a3 W
  have HD3 : Hid (∀ W, Calls Tryz.prog 27 #[.agg #[.int .i64 b1, .int .i64 b2, .int .i64 b3], .agg #[.int .i64 b1, .int .i64 b2, .int .i64 b3]] W fun e w' => e = .returned (.int .i64 q) ∧ Below W.heap.size W w') := fun W => hq ▸ dotc b1 b2 b3 b1 b2 b3 W
  obtain ⟨x, hx⟩ : ∃ k, wrap64 (wrap64 (N * p) * q) = k := ⟨_, rfl⟩
  obtain ⟨y, hy⟩ : ∃ k, wrap64 (wrap64 (n * n) * D) = k := ⟨_, rfl⟩
  rw [hx, hy]
  clear e hn hp hq
  simp only [v3]
  by_cases h0 : 0 < n
  · have hd : decide (0 < n) = true := decide_eq_true h0
    go_enter Tryz.func76, Tryz.ntmps76
    go_wp2_with fail
    refine (HD1.out _).mono ?_
    rintro e w1 ⟨rfl, hb⟩
    obtain ⟨hc1, hf1⟩ := bcell hb
    have HW1 := Lib.hid ((show Below w.heap.size w _ from (by repeat (first | exact Below.refl _ _ | assumption | refine below_drewN ?_ _ | refine Below.drew ?_ | refine Below.setCell ?_ (by first | omega | (simp; done) | (simp; omega)) _ | refine Below.alloc ?_ (by first | omega | (simp; done) | (simp; omega)) _))).trans (hb.mono (by first | omega | (simp; done) | (simp; omega))))
    have hz1 : w.heap.size + 1 + 1 + 1 ≤ w1.heap.size := by have := hb.size; simp at this; omega
    have g0 : w.heap.size < w1.heap.size := by omega
    have g1 : w.heap.size + 1 < w1.heap.size := by omega
    have g2 : w.heap.size + 1 + 1 < w1.heap.size := by omega
    clear hb hz1
    go_wp2_with fail
    refine wp_region_bw2 (by kernel_rfl) (by kernel_rfl) (fun hbwc => ?_)
    repeat (go_big_quiet_step ((first | (go_at_call 27; (with_reducible exact bwCall (HD2.out _))) | (go_at_call 27; (with_reducible exact bwCall (HD3.out _))))))
    refine wpQuiet_nil ?_
    clear hbwc
    intro w2 hb
    have HW2 := Lib.hid (HW1.out.trans (hb.mono HW1.out.size))
    clear hb
    go_wp2_with fail
    go_ret
    exact ⟨ret_bool (by rw [hd, Bool.true_and]), HW2.out⟩
  · have hd : decide (0 < n) = false := decide_eq_false h0
    go_enter Tryz.func76, Tryz.ntmps76
    go_wp2_with fail
    refine (HD1.out _).mono ?_
    rintro e w1 ⟨rfl, hb⟩
    have HW1 := Lib.hid ((show Below w.heap.size w _ from (by repeat (first | exact Below.refl _ _ | assumption | refine below_drewN ?_ _ | refine Below.drew ?_ | refine Below.setCell ?_ (by first | omega | (simp; done) | (simp; omega)) _ | refine Below.alloc ?_ (by first | omega | (simp; done) | (simp; omega)) _))).trans (hb.mono (by first | omega | (simp; done) | (simp; omega))))
    clear hb
    go_wp2_with fail
    refine wp_region_bw2 (by kernel_rfl) (by kernel_rfl) (fun hbwc => ?_)
    repeat (go_big_quiet_step (fail))
    refine wpQuiet_nil ?_
    clear hbwc
    intro w2 hb
    have HW2 := Lib.hid (HW1.out.trans (hb.mono HW1.out.size))
    clear hb
    go_wp2_with fail
    go_ret
    exact ⟨ret_bool (by rw [hd, Bool.false_and]), HW2.out⟩
end Go.Proofs.YtpphnnijnnfngaaGreatDoor

/-
  Telescopes in memory; the walk of sees' function; maps whose keys are a turn and a telescope.
-/
namespace Go.Proofs.YtpphnnijnnfngaaGreatDoor
open Go.RowKit Al

/-- A telescope, and where its zeniths lie. -/
structure Scp where
  nm : ByteArray
  fn : Int
  fd : Int
  ln : Int
  ld : Int
  zs : List V3
  ZA : Option Addr
  zc : Nat
def Scp.cells (x : Scp) : List Value := [.string x.nm, .int .i64 x.fn, .int .i64 x.fd, .int .i64 x.ln, .int .i64 x.ld, .slice x.ZA x.zs.length x.zc]
def scsC (L : List Scp) : List Value := L.flatMap Scp.cells
def v3C (v : V3) : List Value := [.int .i64 v.1, .int .i64 v.2.1, .int .i64 v.2.2]
def zsC (l : List V3) : List Value := l.flatMap v3C
theorem flat_at {α : Type} (f : α → List Value) (m : Nat) (hf : ∀ x, (f x).length = m) (l : List α) {k : Nat} (hk : k < l.length) {j : Nat} (hj : j < m) : (l.flatMap f)[k * m + j]? = (f l[k])[j]? := by
  induction l generalizing k with
  | nil => simp at hk
  | cons v t ih =>
    rw [List.flatMap_cons]
    cases k with
    | zero => rw [List.getElem?_append_left (by rw [hf]; omega)]; simp
    | succ k =>
      rw [List.getElem?_append_right (by rw [hf, Nat.succ_mul]; omega), hf, show (k + 1) * m + j - m = k * m + j by rw [Nat.succ_mul]; omega]
      simp only [List.getElem_cons_succ]
      exact ih (by simpa using hk)
theorem flat_len {α : Type} (f : α → List Value) (m : Nat) (hf : ∀ x, (f x).length = m) (l : List α) : (l.flatMap f).length = l.length * m := by
  induction l with
  | nil => simp
  | cons v t ih => rw [List.flatMap_cons, List.length_append, ih, hf, List.length_cons, Nat.succ_mul]; omega
theorem Sl.z_at {w : World} {B n c : Nat} {A : Option Addr} {l : List V3} (h : Sl w B 3 A n c (zsC l)) {k : Nat} (hk : k < l.length) : ∃ b off, A = some ⟨b, off, none⟩ ∧ b < B ∧ w.cell? ⟨b, off + k * 3, none⟩ = some (.int .i64 l[k].1) ∧ w.cell? ⟨b, off + k * 3 + 1, none⟩ = some (.int .i64 l[k].2.1) ∧ w.cell? ⟨b, off + k * 3 + 2, none⟩ = some (.int .i64 l[k].2.2) := by
  have hn : n = l.length := by have := h.len; rw [zsC, flat_len v3C 3 (fun _ => rfl)] at this; omega
  obtain ⟨b, off, e, hb, hc⟩ := h.at_ (by omega)
  refine ⟨b, off, e, hb, ?_, ?_, ?_⟩
  · have := hc (k * 3 + 0) _ ((flat_at v3C 3 (fun _ => rfl) l hk (by omega)).trans rfl); simpa using this
  · have := hc (k * 3 + 1) _ ((flat_at v3C 3 (fun _ => rfl) l hk (by omega)).trans rfl); simpa [Nat.add_assoc] using this
  · have := hc (k * 3 + 2) _ ((flat_at v3C 3 (fun _ => rfl) l hk (by omega)).trans rfl); simpa [Nat.add_assoc] using this
theorem Sl.sc_at {w : World} {B n c : Nat} {A : Option Addr} {l : List Scp} (h : Sl w B 6 A n c (scsC l)) {k : Nat} (hk : k < l.length) : ∃ b off, A = some ⟨b, off, none⟩ ∧ b < B ∧ w.cell? ⟨b, off + k * 6, none⟩ = some (.string l[k].nm) ∧ w.cell? ⟨b, off + k * 6 + 1, none⟩ = some (.int .i64 l[k].fn) ∧ w.cell? ⟨b, off + k * 6 + 2, none⟩ = some (.int .i64 l[k].fd) ∧
    w.cell? ⟨b, off + k * 6 + 3, none⟩ = some (.int .i64 l[k].ln) ∧ w.cell? ⟨b, off + k * 6 + 4, none⟩ = some (.int .i64 l[k].ld) ∧ w.cell? ⟨b, off + k * 6 + 5, none⟩ = some (.slice l[k].ZA l[k].zs.length l[k].zc) := by
  have hn : n = l.length := by have := h.len; rw [scsC, flat_len Scp.cells 6 (fun _ => rfl)] at this; omega
  obtain ⟨b, off, e, hb, hc⟩ := h.at_ (by omega)
  refine ⟨b, off, e, hb, ?_, ?_, ?_, ?_, ?_, ?_⟩
  · have := hc (k * 6 + 0) _ ((flat_at Scp.cells 6 (fun _ => rfl) l hk (by omega)).trans rfl); simpa using this
  · have := hc (k * 6 + 1) _ ((flat_at Scp.cells 6 (fun _ => rfl) l hk (by omega)).trans rfl); simpa [Nat.add_assoc] using this
  · have := hc (k * 6 + 2) _ ((flat_at Scp.cells 6 (fun _ => rfl) l hk (by omega)).trans rfl); simpa [Nat.add_assoc] using this
  · have := hc (k * 6 + 3) _ ((flat_at Scp.cells 6 (fun _ => rfl) l hk (by omega)).trans rfl); simpa [Nat.add_assoc] using this
  · have := hc (k * 6 + 4) _ ((flat_at Scp.cells 6 (fun _ => rfl) l hk (by omega)).trans rfl); simpa [Nat.add_assoc] using this
  · have := hc (k * 6 + 5) _ ((flat_at Scp.cells 6 (fun _ => rfl) l hk (by omega)).trans rfl); simpa [Nat.add_assoc] using this
set_option maxRecDepth 100000 in
set_option maxHeartbeats 4000000 in
theorem sees1_ (d : V3) (x : Scp) (t bx bt : Nat) (w : World) (ht : t < x.zs.length) (hz : Sl w w.heap.size 3 x.ZA x.zs.length x.zc (zsC x.zs)) (hbx : bx < w.heap.size) (hbt : bt < w.heap.size)
    (h2 : w.cell? ⟨bx, 3, none⟩ = some (.int .i64 x.ln)) (h3 : w.cell? ⟨bx, 4, none⟩ = some (.int .i64 x.ld)) (h4 : w.cell? ⟨bx, 5, none⟩ = some (.slice x.ZA x.zs.length x.zc)) (h5 : w.cell? ⟨bt, 0, none⟩ = some (.int .i64 (t : Int))) :
    Calls Tryz.prog 75 #[v3 d, .pointer (some ⟨bx, 0, none⟩), .pointer (some ⟨bt, 0, none⟩)] w fun e w' => e = .returned (.bool (nearW d x.zs[t] x.ln x.ld)) ∧ Below w.heap.size w w' := by
  obtain ⟨zb, zo, hza, hzb, c0, c1, c2⟩ := hz.z_at ht
  have hcap := hz.cap
  have hl : x.zs.length ≤ 9223372036854775807 := Nat.le_trans hz.cap hz.max
  obtain ⟨z, hzz⟩ : ∃ z, x.zs[t] = z := ⟨_, rfl⟩
  rw [hzz] at c0 c1 c2 ⊢
  have HN : Hid (∀ W, Calls Tryz.prog 76 #[v3 d, v3 z, .agg #[.int .i64 x.ln, .int .i64 x.ld]] W fun e w' => e = .returned (.bool (nearW d z x.ln x.ld)) ∧ Below W.heap.size W w') := fun W => near_ d z x.ln x.ld W
  obtain ⟨r, hr⟩ : ∃ r, nearW d z x.ln x.ld = r := ⟨_, rfl⟩
  rw [hr] at HN ⊢
  rw [hza] at h4
  obtain ⟨m, hm⟩ : ∃ m, x.zs.length = m := ⟨_, rfl⟩
  rw [hm] at h4 hcap hl ht
  obtain ⟨a, b, c⟩ := d
  obtain ⟨p, q, s⟩ := z
  have ht' : (t : Int) < (m : Int) := by omega
  clear hz hza hzz hr hm
  have HBB : Hid (Below w.heap.size w (w.alloc (.cells #[.int .i64 a, .int .i64 b, .int .i64 c] 40))) := (by repeat (first | exact Below.refl _ _ | assumption | refine below_drewN ?_ _ | refine Below.drew ?_ | refine Below.setCell ?_ (by first | omega | (simp; done) | (simp; omega)) _ | refine Below.alloc ?_ (by first | omega | (simp; done) | (simp; omega)) _))
  go_enter Tryz.func75, Tryz.ntmps75
  go_wp2_with fail
  refine wp_region_bw2 (by kernel_rfl) (by kernel_rfl) (fun hbwc => ?_)
  repeat (go_big_quiet_step ((go_at_call 76; exact bwCall (HN.out _))))
  refine wpQuiet_nil ?_
  clear hbwc
  intro w2 hb
  have HW2 := Lib.hid (HBB.out.trans (hb.mono (by simp)))
  clear hb
  go_wp2_with fail
  go_ret
  exact ⟨rfl, HW2.out⟩
/-- A turn and a telescope as a key. -/
def mk2 (k : Fin 32) : Lit := .string (keyBytes [.int .i64 ((k.1 / 4 : Nat) : Int), .int .i64 ((k.1 % 4 : Nat) : Int)])
theorem keyLaw2 : Maps.Keyed Tryz.prog 142 := Maps.Keyed.of_law (deep_law_laid (by kernel_rfl) (m := 2) (by omega) (of_decide_eq_true (by kernel_rfl)) (by kernel_rfl) (by kernel_rfl))
theorem cells2 : Tryz.prog.cellsOf 142 = 2 := by kernel_rfl
theorem cellsI : Tryz.prog.cellsOf 3 = 1 := by kernel_rfl
theorem keyT2 : Tryz.prog.keyType 142 = true := by kernel_rfl
theorem keyLits_pair {P : Program} {k e : TypeId} (hk : P.underlying k = some (.array 2 e)) (he : P.underlying e = some (.int .i64)) (hc2 : P.cellsOf k = 2) (hc1 : P.cellsOf e = 1) (m : Nat) {a b : Int} (wa : (Lit.int .i64 a).wf = true) (wb : (Lit.int .i64 b).wf = true) :
    P.keyLits (m + 2) k [.int .i64 a, .int .i64 b] = some [.int .i64 a, .int .i64 b] := by
  have e1 : ∀ x : Int, (Lit.int .i64 x).wf = true → P.keyLits (m + 1) e [.int .i64 x] = some [.int .i64 x] := fun x hx => by
    unfold Program.keyLits
    rw [he]
    simp [hx]
  unfold Program.keyLits
  rw [hk]
  simp only [List.length_cons, List.length_nil, hc2, hc1, if_true]
  have h0 := e1 a wa
  have h1 := e1 b wb
  simp [List.range, List.range.loop, h0, h1]
theorem key2_mk (k : Fin 32) : keyOf Tryz.prog 142 (.agg #[.int .i64 ((k.1 / 4 : Nat) : Int), .int .i64 ((k.1 % 4 : Nat) : Int)]) = some (mk2 k) := by
  have w1 : (Lit.int .i64 ((k.1 / 4 : Nat) : Int)).wf = true := (by decide : ∀ k : Fin 32, (Lit.int .i64 ((k.1 / 4 : Nat) : Int)).wf = true) k
  have w2 : (Lit.int .i64 ((k.1 % 4 : Nat) : Int)).wf = true := (by decide : ∀ k : Fin 32, (Lit.int .i64 ((k.1 % 4 : Nat) : Int)).wf = true) k
  obtain ⟨a, ha⟩ : ∃ a : Int, ((k.1 / 4 : Nat) : Int) = a := ⟨_, rfl⟩
  obtain ⟨b, hb⟩ : ∃ b : Int, ((k.1 % 4 : Nat) : Int) = b := ⟨_, rfl⟩
  unfold mk2
  rw [ha] at w1 ⊢
  rw [hb] at w2 ⊢
  clear ha hb
  obtain ⟨m, hm⟩ : ∃ m, Tryz.prog.types.size + 1 = m + 2 := ⟨Tryz.prog.types.size - 1, by have : 0 < Tryz.prog.types.size := of_decide_eq_true (by kernel_rfl); omega⟩
  have hl := keyLits_pair (P := Tryz.prog) Tryz.underlying142 Tryz.underlying3 cells2 cellsI m w1 w2
  have hf : (Value.agg #[.int .i64 a, .int .i64 b]).formed Tryz.prog 142 = true := by
    unfold Value.formed
    rw [Tryz.underlying142, cells2]
    rfl
  unfold keyOf
  rw [Tryz.underlying142, hm]
  show (if (Tryz.prog.keyType 142 && (Value.agg #[.int .i64 a, .int .i64 b]).formed Tryz.prog 142) = true then (Tryz.prog.keyLits (m + 2) 142 [.int .i64 a, .int .i64 b]).map _ else none) = _
  rw [keyT2, hf, hl]
  rfl
theorem mk2_inj {k u : Fin 32} (h : mk2 u = mk2 k) : u = k := by
  have h1 := key2_mk k
  have h2 := key2_mk u
  rw [h] at h2
  have h3 := keyLaw2.inj h1 h2
  simp only [Value.agg.injEq, Array.mk.injEq, List.cons.injEq, Value.int.injEq, true_and, and_true] at h3
  have := h3.1
  have := h3.2
  apply Fin.ext
  omega
end Go.Proofs.YtpphnnijnnfngaaGreatDoor
