/-
  Maps in memory, whatever the keys: what stands at each key, and how many there are.
-/
import Derived.Test.YtohfofecbdfkgaaGreatDoorU17
import Derived.Sort.KeysCollected
import Derived.Lib.SlKeysI
import Derived.Test.YtohfofecbdfkgaaGreatDoorU23
import Derived.Shelf.SlGeneric
import Derived.Shelf.SlIter.Nil
import Derived.Shelf.SlIterI.Nil
import Derived.Shelf.SortM.Plain
import Derived.Shelf.SortM.SortNone
import Derived.Ground.GgzProg
import Derived.Ground.SlgmProg
import Derived.Test.YtohfofecbdfkgaaGreatDoorProg
import Derived.Test.YtohfofecbdfkgaaGreatDoorU22
namespace Go.Proofs.YtohfofecbdfkgaaGreatDoor
open Go.RowKit Al

/-- Block mb is a map with c entries: what f says of each key. -/
def MapK {α : Type} (kt : TypeId) (mk : α → Lit) (w : World) (mb n c : Nat) (f : α → Option Value) : Prop :=
  ∃ D : DataW Value, w.ownsMap Tryz.prog kt MapR mb n D ∧ Maps.size D = c ∧ ∀ s, Maps.has D (mk s) = (f s).isSome ∧ ∀ v, f s = some v → ∀ z, D.atKey (mk s) z = .held v
section
variable {α : Type} {kt : TypeId} {mk : α → Lit} {w : World} {mb n c : Nat} {f : α → Option Value}
theorem MapK.made (kt : TypeId) (mk : α → Lit) (w : World) : MapK kt mk (w.alloc (.map #[] 0)) w.heap.size 0 0 (fun _ => none) :=
  ⟨_, World.ownsMap_made w _ _ _, rfl, fun _ => ⟨rfl, fun _ h => (nomatch h)⟩⟩
theorem MapK.lt (h : MapK kt mk w mb n c f) : mb < w.heap.size := by
  obtain ⟨D, h1, _⟩ := h
  exact h1.lt
theorem MapK.mono (h : MapK kt mk w mb n c f) {m : Nat} (hm : n ≤ m) : MapK kt mk w mb m c f := by
  obtain ⟨D, h1, h2⟩ := h
  exact ⟨D, h1.mono hm, h2⟩
theorem MapK.keep (h : MapK kt mk w mb n c f) {w' : World} {F : Nat → Prop} (k : Kp F w w') (hF : ¬ F mb) : MapK kt mk w' mb n c f := by
  have hlt := h.lt
  obtain ⟨D, ⟨es, clock, hb, r⟩, h2⟩ := h
  exact ⟨D, ⟨es, clock, (k.block mb hlt hF).trans hb, r⟩, h2⟩
theorem MapK.look (h : MapK kt mk w mb n c f) {t e : TypeId} (K : Maps.Keyed Tryz.prog kt) (ht : Tryz.prog.underlying t = some (.map kt e)) {z : Value} (hz : (zeroValue e).run Tryz.prog w = .ok z w) {key : Value} {s : α} (hkey : keyOf Tryz.prog kt key = some (mk s)) :
    (Instr.lookup t (.map (some mb)) key false).run Tryz.prog w = .ok ((f s).getD z) w := by
  obtain ⟨D, h1, _, h2⟩ := h
  obtain ⟨hh, ha⟩ := h2 s
  obtain ⟨v, ps, hrun, hv⟩ := h1.lookup K ht hz (zd := .held z) (zp := []) rfl hkey
  rw [hrun]
  have hv' : DataW.held v = D.atKey (mk s) (.held z) := congrArg Prod.fst (Option.some.inj hv)
  cases hf : f s with
  | none =>
    rw [hf] at hh
    rw [Maps.atKey_of_not_has hh] at hv'
    cases hv'
    rfl
  | some u =>
    rw [ha u hf] at hv'
    cases hv'
    rfl
theorem MapK.put [DecidableEq α] (h : MapK kt mk w mb n c f) {t e : TypeId} (K : Maps.Keyed Tryz.prog kt) (ht : Tryz.prog.underlying t = some (.map kt e)) (hn : n < maxLen) {key : Value} {s : α} (hkey : keyOf Tryz.prog kt key = some (mk s)) (hinj : ∀ u, mk u = mk s → u = s) (hK : WideAt.IsKeyLit (mk s)) (v : Value) :
    ∃ w', (Instr.mapUpdate t (.map (some mb)) key v).run Tryz.prog w = .ok () w' ∧ MapK kt mk w' mb (n + 1) (if (f s).isSome then c else c + 1) (fun k => if k = s then some v else f k) ∧ w.grownBy w' (some mb) := by
  obtain ⟨D, h1, hc, h2⟩ := h
  obtain ⟨w', hrun, h3, h4⟩ := h1.update K ht hn hkey (val := v) (d := .held v) (ps := []) rfl
  have hm := h1.isMap
  refine ⟨w', hrun, ⟨_, h3, ?_, fun k => ?_⟩, h4⟩
  · rw [Maps.size_put (h1.tidy K), (h2 s).1, hc]
  by_cases hk : k = s
  · subst hk
    simp only [if_true]
    refine ⟨Maps.has_put_same hm hK _, fun u hu z => ?_⟩
    cases hu
    exact Maps.atKey_put_same hm hK _ _
  · simp only [if_neg hk]
    have hne : mk k ≠ mk s := fun e => hk (hinj _ e)
    obtain ⟨hh, ha⟩ := h2 k
    refine ⟨by rw [Maps.has_put_other hne]; exact hh, fun u hu z => ?_⟩
    rw [Maps.atKey_put_other hne]
    exact ha u hu z
end

/-- Maps whose keys are strings; whose keys are ints. -/
abbrev MapS := MapK 9 Lit.string
abbrev MapI := MapK 3 (Lit.int .i64)
theorem keyLawI : Maps.Keyed Tryz.prog 3 := Maps.int_keyed Tryz.underlying3
theorem strLit_inj (s u : List UInt8) (h : Lit.string u = .string s) : u = s := by injection h
theorem intLit_inj (s u : Int) (h : Lit.int .i64 u = .int .i64 s) : u = s := by injection h
theorem isKeyI {v : Int} (_ : (Lit.int .i64 v).wf = true) : WideAt.IsKeyLit (.int .i64 v) := by first | trivial | (simp [WideAt.IsKeyLit]; done)
end Go.Proofs.YtohfofecbdfkgaaGreatDoor

/-
  Plain: the names of the events are those of the notices, in order; what sorted keys are; the forks.
-/
namespace Go.Proofs.YtohfofecbdfkgaaGreatDoor
open Go.RowKit Al

theorem lt_of_not {x n : List UInt8} (h : ¬ n < x) (hne : x ≠ n) : x < n := by
  refine Decidable.byContradiction fun h2 => hne (List.le_antisymm ?_ ?_)
  · exact List.not_lt.1 h
  · exact List.not_lt.1 h2
theorem less_is (x : List UInt8) : ∀ y : List UInt8, Op.bytesLess x y = decide (x < y) := by
  induction x with
  | nil => intro y; cases y <;> simp [Op.bytesLess]
  | cons a x ih =>
    intro y
    cases y with
    | nil => simp [Op.bytesLess]
    | cons b y =>
      rw [Op.bytesLess, ih y]
      simp only [List.cons_lt_cons_iff]
      by_cases h1 : a < b <;> by_cases h2 : a = b <;> by_cases h3 : x < y <;> simp [h1, h2, h3]
theorem less_iff (n x : ByteArray) : Op.bytesLess n.toList x.toList = true ↔ n.data.toList < x.data.toList := by
  rw [less_is, Lib.toList_data, Lib.toList_data, decide_eq_true_eq]
theorem mem_insW_iff {m n : ByteArray} : ∀ {out : List ByteArray}, m ∈ insW n out ↔ m = n ∨ m ∈ out
  | [] => by simp [insW]
  | x :: r => by
    unfold insW
    split
    · simp
    · simp only [List.mem_cons, mem_insW_iff (out := r)]
      constructor
      · rintro (h | h | h) <;> simp [h]
      · rintro (h | h | h) <;> simp [h]
def LtD (x y : ByteArray) : Prop := x.data.toList < y.data.toList
theorem insW_sorted {n : ByteArray} : ∀ {out : List ByteArray}, out.Pairwise LtD → (∀ x ∈ out, x.data.toList ≠ n.data.toList) → (insW n out).Pairwise LtD
  | [], _, _ => by simp [insW]
  | x :: r, hs, hn => by
    obtain ⟨h1, h2⟩ := List.pairwise_cons.1 hs
    unfold insW
    split
    · rename_i h
      have hlt := (less_iff n x).1 h
      refine List.pairwise_cons.2 ⟨fun y hy => ?_, hs⟩
      rcases List.mem_cons.1 hy with rfl | hy
      · exact hlt
      · exact List.lt_trans hlt (h1 y hy)
    · rename_i h
      have hlt : x.data.toList < n.data.toList := lt_of_not (fun e => h ((less_iff n x).2 e)) (hn x List.mem_cons_self)
      refine List.pairwise_cons.2 ⟨fun y hy => ?_, insW_sorted h2 (fun z hz => hn z (List.mem_cons_of_mem _ hz))⟩
      rcases mem_insW_iff.1 hy with rfl | hy
      · exact hlt
      · exact h1 y hy
theorem wordIn_iff {s : ByteArray} {l : List ByteArray} : wordIn s l = true ↔ s ∈ l := by
  unfold wordIn
  rw [List.any_eq_true]
  constructor
  · rintro ⟨x, hx, h⟩
    have h2 : x.toList = s.toList := by simpa using h
    rw [← bytes_inj h2]
    exact hx
  · intro h
    exact ⟨s, h, by simp⟩
theorem evW_spec (L : List It) : (evW L).Pairwise LtD ∧ ∀ m, m ∈ evW L ↔ ∃ x ∈ L, x.n.a.ev = m := by
  have key : ∀ (L : List It) (out : List ByteArray), out.Pairwise LtD → (L.foldl (fun out x => if wordIn x.n.a.ev out then out else insW x.n.a.ev out) out).Pairwise LtD ∧ ∀ m, m ∈ L.foldl (fun out x => if wordIn x.n.a.ev out then out else insW x.n.a.ev out) out ↔ m ∈ out ∨ ∃ x ∈ L, x.n.a.ev = m := by
    intro L
    induction L with
    | nil => intro out h; exact ⟨h, fun m => by simp⟩
    | cons x L ih =>
      intro out h
      rw [List.foldl_cons]
      by_cases hw : wordIn x.n.a.ev out = true
      · rw [if_pos hw]
        obtain ⟨h1, h2⟩ := ih out h
        refine ⟨h1, fun m => ?_⟩
        rw [h2]
        have := wordIn_iff.1 hw
        constructor
        · rintro (h | ⟨y, hy, e⟩)
          · exact .inl h
          · exact .inr ⟨y, List.mem_cons_of_mem _ hy, e⟩
        · rintro (h | ⟨y, hy, e⟩)
          · exact .inl h
          · rcases List.mem_cons.1 hy with rfl | hy
            · exact .inl (e ▸ this)
            · exact .inr ⟨y, hy, e⟩
      · rw [if_neg hw]
        have hnot : x.n.a.ev ∉ out := fun e => hw (wordIn_iff.2 e)
        obtain ⟨h1, h2⟩ := ih (insW x.n.a.ev out) (insW_sorted h (fun y hy e => hnot (data_inj e ▸ hy)))
        refine ⟨h1, fun m => ?_⟩
        rw [h2, mem_insW_iff]
        constructor
        · rintro ((rfl | h) | ⟨y, hy, e⟩)
          · exact .inr ⟨x, List.mem_cons_self, rfl⟩
          · exact .inl h
          · exact .inr ⟨y, List.mem_cons_of_mem _ hy, e⟩
        · rintro (h | ⟨y, hy, e⟩)
          · exact .inl (.inr h)
          · rcases List.mem_cons.1 hy with rfl | hy
            · exact .inl (.inl e.symm)
            · exact .inr ⟨y, hy, e⟩
  obtain ⟨h1, h2⟩ := key L [] List.Pairwise.nil
  exact ⟨h1, fun m => (h2 m).trans (by simp)⟩
/-- The keys of a map, sorted. -/
theorem keys_sorted {w : World} {mb n : Nat} {D : DataW Value} (hown : w.ownsMap Tryz.prog 9 MapR mb n D) {ss0 : List (List UInt8)} (hs : ss0.Pairwise (· < ·)) (hm : ∀ s, s ∈ ss0 ↔ Maps.has D (.string s) = true) {ss : List (List UInt8)} (hp : ss.Perm (strKeys D)) :
    ss.mergeSort (fun x y => decide (x ≤ y)) = ss0 := by
  obtain ⟨es, rfl, h1, _⟩ := hown.entries keyLaw
  obtain ⟨es', e, h2⟩ := hown.keysOf
  cases e
  have hnd : ss0.Nodup := hs.imp (fun h e => by subst e; exact List.lt_irrefl _ h)
  have hk : ∀ p ∈ es, ∃ x, p.1 = .string x := fun p hp => by
    obtain ⟨key, hkey⟩ := h2 p hp
    obtain ⟨x, _, e, _⟩ := Maps.keyOf_str Tryz.underlying9 hkey
    exact ⟨x, e⟩
  have hq := perm_strKeys h1 hk hnd hm
  have h3 := mergeSort_of_perm (hp.trans hq.symm)
  refine h3.trans (List.mergeSort_of_pairwise (hs.imp fun h => ?_))
  simp only [decide_eq_true_eq]
  exact List.le_of_lt h
theorem keys_sorted_i {w : World} {mb n : Nat} {D : DataW Value} (hown : w.ownsMap Tryz.prog 3 MapR mb n D) {ss0 : List Int} (hs : ss0.Pairwise (· < ·)) (hm : ∀ s, s ∈ ss0 ↔ Maps.has D (.int .i64 s) = true) {ss : List Int} (hp : ss.Perm (intKeys D)) :
    ss.mergeSort (fun x y => decide (x ≤ y)) = ss0 := by
  obtain ⟨es, rfl, h1, _⟩ := hown.entries keyLawI
  obtain ⟨es', e, h2⟩ := hown.keysOf
  cases e
  have hnd : ss0.Nodup := hs.imp (fun h e => by subst e; exact Int.lt_irrefl _ h)
  have hk : ∀ p ∈ es, ∃ x, p.1 = .int .i64 x := fun p hp => by
    obtain ⟨key, hkey⟩ := h2 p hp
    obtain ⟨x, _, e, _⟩ := Maps.keyOf_i64 Tryz.underlying3 hkey
    exact ⟨x, e⟩
  have hq := perm_intKeys h1 hk hnd hm
  have h3 := mergeSort_of_perm_i (hp.trans hq.symm)
  refine h3.trans (List.mergeSort_of_pairwise (hs.imp fun h => ?_))
  simp only [decide_eq_true_eq]
  exact Int.le_of_lt h
/-- A list of what is of use, of a greater one. -/
theorem flat_sub {α : Type} {g : Int → List α} {us vs : List Int} (hus : us.Pairwise (· < ·)) (hvs : vs.Pairwise (· < ·)) (hsub : ∀ v ∈ vs, v ∈ us) (h : ∀ v ∈ us, v ∉ vs → g v = []) : vs.flatMap g = us.flatMap g := by
  have e : us.filter (fun v => decide (v ∈ vs)) = vs := by
    have hp : (us.filter (fun v => decide (v ∈ vs))).Perm vs := by
      refine (List.perm_ext_iff_of_nodup ?_ (hvs.imp fun h => Int.ne_of_lt h)).2 fun v => ?_
      · exact (hus.imp (fun h => Int.ne_of_lt h) : us.Nodup).filter _
      · rw [List.mem_filter, decide_eq_true_eq]
        exact ⟨fun h => h.2, fun h => ⟨hsub v h, h⟩⟩
    exact List.Perm.eq_of_pairwise (le := fun a b => a < b) (fun a b _ _ h1 h2 => by omega) (hus.filter _) hvs hp
  have key : ∀ l : List Int, (∀ v ∈ l, v ∉ vs → g v = []) → (l.filter (fun v => decide (v ∈ vs))).flatMap g = l.flatMap g := by
    intro l
    induction l with
    | nil => intro _; rfl
    | cons v l ih =>
      intro hl
      rw [List.filter_cons, List.flatMap_cons]
      by_cases hv : v ∈ vs
      · rw [if_pos (by simpa using hv), List.flatMap_cons, ih (fun u hu => hl u (List.mem_cons_of_mem _ hu))]
      · rw [if_neg (by simpa using hv), hl v List.mem_cons_self hv, ih (fun u hu => hl u (List.mem_cons_of_mem _ hu))]
        rfl
  rw [← key us h, e]
/-- A fork, as it is said: the event, the version, who signed two ways. -/
structure Frk where
  ev : ByteArray
  ver : Int
  who : List Int
/-- Who signed two ways, of the first ones. -/
def forkWho (L : List It) (v : Int) (k : Nat) : List Int := ((List.range k).map fun s : Nat => (s : Int)).filter fun s => pairAny (twoV v s) L L.length
theorem forkWho_next (L : List It) (v : Int) (k : Nat) : forkWho L v (k + 1) = forkWho L v k ++ if pairAny (twoV v k) L L.length then [(k : Int)] else [] := by
  unfold forkWho
  rw [List.range_succ, List.map_append, List.filter_append]
  congr 1
  rw [List.map_cons, List.map_nil, List.filter_cons]
  split <;> rfl
theorem forkWho_len (L : List It) (v : Int) (k : Nat) : (forkWho L v k).length ≤ k := by
  unfold forkWho
  exact Nat.le_trans (List.length_filter_le _ _) (by simp)
/-- The forks of a version: one or none. -/
def forkAt (nk : Nat) (L : List It) (m : ByteArray) (v : Int) : List Frk := if pairAny (splitV v) L L.length then [⟨m, v, forkWho L v nk⟩] else []
/-- The versions to a number. -/
def versTo (k : Nat) : List Int := (List.range k).map fun j : Nat => (j : Int) + 1
theorem versTo_next (k : Nat) : versTo (k + 1) = versTo k ++ [(k : Int) + 1] := by simp [versTo, List.range_succ]
theorem versTo_sorted (k : Nat) : (versTo k).Pairwise (· < ·) := by
  unfold versTo
  refine List.pairwise_map.2 ((List.pairwise_lt_range).imp fun h => ?_)
  omega
theorem mem_versTo {k : Nat} {v : Int} : v ∈ versTo k ↔ 1 ≤ v ∧ v ≤ k := by
  unfold versTo
  rw [List.mem_map]
  constructor
  · rintro ⟨j, hj, rfl⟩
    have := List.mem_range.1 hj
    omega
  · rintro ⟨h1, h2⟩
    exact ⟨(v - 1).toNat, List.mem_range.2 (by omega), by omega⟩
/-- The forks of an event, and of all. -/
def forksE (nk : Nat) (L : List It) (m : ByteArray) : List Frk := (versTo 1000).flatMap (forkAt nk L m)
def forksS (ks : List (Int × Int)) (q : Int) (L : List It) : List Frk := (evW (validN ks q L)).flatMap fun m => forksE ks.length ((validN ks q L).filter (ofEv m)) m
end Go.Proofs.YtohfofecbdfkgaaGreatDoor

/-
  DERIVED: THE SHELF's CONTRACTS AT THIS DUMP, IN PLAIN WORDS (tools/lay-plain.mjs out of 'TryzSk.lean', which tools/lay-shelf.mjs wrote): THE SAME DECLARATIONS UNDER THE SAME NAMES: 'import', 'namespace', 'open', 'def', 'theorem' AND NOTHING ELSE: no command of the shelf's: FOR A HAND-IN. Each laying: the table of numbers ('.._ren') and one theorem, a field a fact of the dump's own or the kernel's comparison; each contract: ONE APPLICATION.
-/
namespace Go.Proofs
open Go.Shelf
def Tryz.keys43_ren : Go.Shelf.Ren := ⟨fun | 7 => 43 | 10 => 93 | n => n, fun | 23 => 80 | 26 => 9 | 3 => 25 | 28 => 86 | 0 => 0 | 27 => 85 | 33 => 126 | 4 => 4 | n => n, fun | n => n⟩
theorem Tryz.keys43 : Go.Proofs.SlLaysZ.n7 Tryz.prog Tryz.keys43_ren := {
  mixed := by kernel_rfl
  f7 := ⟨Tryz.f43.name, by decide, Tryz.func43.trans (congrArg some (by kernel_rfl))⟩
  f10 := ⟨Tryz.f93.name, by decide, Tryz.func93.trans (congrArg some (by kernel_rfl))⟩
  t0 := Tryz.underlying0
  a0 := Tryz.isAgg0
  z0 := Tryz.sizeOf0
  v0 := Tryz.zeroValue0
  t4 := Tryz.underlying4
  a4 := Tryz.isAgg4
  z4 := Tryz.sizeOf4
  v4 := Tryz.zeroValue4
  t23 := Tryz.underlying80
  a23 := Tryz.isAgg80
  z23 := Tryz.sizeOf80
  v23 := Tryz.zeroValue80
  t26 := Tryz.underlying9
  a26 := Tryz.isAgg9
  z26 := Tryz.sizeOf9
  v26 := Tryz.zeroValue9
  t27 := Tryz.underlying85
  a27 := Tryz.isAgg85
  z27 := Tryz.sizeOf85
  v27 := Tryz.zeroValue85
  t28 := Tryz.underlying86
  a28 := Tryz.isAgg86
  z28 := Tryz.sizeOf86
  v28 := Tryz.zeroValue86
  t33 := Tryz.underlying126
  a33 := Tryz.isAgg126
  z33 := Tryz.sizeOf126
  v33 := Tryz.zeroValue126 }
def Tryz.sorted42_ren : Go.Shelf.Ren := ⟨fun | 6 => 42 | 8 => 91 | 9 => 92 | 11 => 127 | 13 => 129 | 12 => 128 | 23 => 159 | 24 => 160 | 14 => 150 | 15 => 151 | 16 => 152 | 17 => 153 | 18 => 154 | 19 => 155 | 20 => 156 | 21 => 157 | 22 => 158 | 25 => 183 | 26 => 184 | 27 => 185 | 28 => 186 | 29 => 187 | 30 => 188 | 31 => 200 | n => n, fun | 26 => 9 | 28 => 86 | 24 => 83 | 0 => 0 | 3 => 3 | 37 => 166 | 48 => 190 | 50 => 192 | 4 => 4 | 40 => 184 | 39 => 183 | 45 => 161 | 5 => 5 | 9 => 9 | 51 => 211 | 55 => 215 | 57 => 224 | 58 => 225 | 33 => 126 | n => n, fun | n => n⟩
theorem Tryz.sorted42 : Go.Proofs.SlLaysZ.n6 Tryz.prog Tryz.sorted42_ren := {
  mixed := by kernel_rfl
  f6 := ⟨Tryz.f42.name, by decide, Tryz.func42.trans (congrArg some (by kernel_rfl))⟩
  f8 := ⟨Tryz.f91.name, by decide, Tryz.func91.trans (congrArg some (by kernel_rfl))⟩
  f11 := ⟨Tryz.f127.name, by decide, Tryz.func127.trans (congrArg some (by kernel_rfl))⟩
  t0 := Tryz.underlying0
  a0 := Tryz.isAgg0
  z0 := Tryz.sizeOf0
  v0 := Tryz.zeroValue0
  t24 := Tryz.underlying83
  a24 := Tryz.isAgg83
  z24 := Tryz.sizeOf83
  v24 := Tryz.zeroValue83
  t26 := Tryz.underlying9
  a26 := Tryz.isAgg9
  z26 := Tryz.sizeOf9
  v26 := Tryz.zeroValue9
  t28 := Tryz.underlying86
  a28 := Tryz.isAgg86
  z28 := Tryz.sizeOf86
  v28 := Tryz.zeroValue86
  i26 := by kernel_rfl }
def Tryz.sort92_ren : Go.Shelf.Ren := ⟨fun | 6 => 92 | 8 => 129 | 9 => 128 | 19 => 159 | 20 => 160 | 21 => 150 | 22 => 151 | 23 => 152 | 24 => 153 | 25 => 154 | 26 => 155 | 27 => 156 | 28 => 157 | 29 => 158 | 36 => 183 | 31 => 184 | 32 => 185 | 37 => 186 | 38 => 187 | 39 => 188 | 41 => 200 | n => n, fun | 27 => 83 | 29 => 9 | 3 => 3 | 32 => 166 | 26 => 83 | 0 => 0 | 44 => 190 | 46 => 192 | 4 => 4 | 36 => 184 | 35 => 183 | 41 => 161 | 5 => 5 | 9 => 9 | 53 => 211 | 57 => 215 | 63 => 224 | 64 => 225 | n => n, fun | n => n⟩
theorem Tryz.sort92 : Go.Proofs.SlLaysM.n6 Tryz.prog Tryz.sort92_ren := {
  mixed := by kernel_rfl
  f6 := ⟨Tryz.f92.name, by decide, Tryz.func92.trans (congrArg some (by kernel_rfl))⟩
  f8 := Tryz.func129.trans (congrArg some (by kernel_rfl))
  f9 := ⟨Tryz.f128.name, by decide, Tryz.func128.trans (congrArg some (by kernel_rfl))⟩
  f19 := Tryz.func159.trans (congrArg some (by kernel_rfl))
  f20 := Tryz.func160.trans (congrArg some (by kernel_rfl))
  f21 := ⟨Tryz.f150.name, by decide, Tryz.func150.trans (congrArg some (by kernel_rfl))⟩
  f22 := ⟨Tryz.f151.name, by decide, Tryz.func151.trans (congrArg some (by kernel_rfl))⟩
  f23 := ⟨Tryz.f152.name, by decide, Tryz.func152.trans (congrArg some (by kernel_rfl))⟩
  f24 := ⟨Tryz.f153.name, by decide, Tryz.func153.trans (congrArg some (by kernel_rfl))⟩
  f25 := ⟨Tryz.f154.name, by decide, Tryz.func154.trans (congrArg some (by kernel_rfl))⟩
  f26 := ⟨Tryz.f155.name, by decide, Tryz.func155.trans (congrArg some (by kernel_rfl))⟩
  f27 := ⟨Tryz.f156.name, by decide, Tryz.func156.trans (congrArg some (by kernel_rfl))⟩
  f28 := ⟨Tryz.f157.name, by decide, Tryz.func157.trans (congrArg some (by kernel_rfl))⟩
  f29 := ⟨Tryz.f158.name, by decide, Tryz.func158.trans (congrArg some (by kernel_rfl))⟩
  f31 := Tryz.func184.trans (congrArg some (by kernel_rfl))
  f32 := Tryz.func185.trans (congrArg some (by kernel_rfl))
  f36 := ⟨Tryz.f183.name, by decide, Tryz.func183.trans (congrArg some (by kernel_rfl))⟩
  f37 := ⟨Tryz.f186.name, by decide, Tryz.func186.trans (congrArg some (by kernel_rfl))⟩
  f38 := ⟨Tryz.f187.name, by decide, Tryz.func187.trans (congrArg some (by kernel_rfl))⟩
  f39 := ⟨Tryz.f188.name, by decide, Tryz.func188.trans (congrArg some (by kernel_rfl))⟩
  f41 := ⟨Tryz.f200.name, by decide, Tryz.func200.trans (congrArg some (by kernel_rfl))⟩
  t0 := Tryz.underlying0
  a0 := Tryz.isAgg0
  z0 := Tryz.sizeOf0
  v0 := Tryz.zeroValue0
  t3 := Tryz.underlying3
  a3 := Tryz.isAgg3
  z3 := Tryz.sizeOf3
  v3 := Tryz.zeroValue3
  t4 := Tryz.underlying4
  a4 := Tryz.isAgg4
  z4 := Tryz.sizeOf4
  v4 := Tryz.zeroValue4
  t5 := Tryz.underlying5
  a5 := Tryz.isAgg5
  z5 := Tryz.sizeOf5
  v5 := Tryz.zeroValue5
  t9 := Tryz.underlying9
  a9 := Tryz.isAgg9
  z9 := Tryz.sizeOf9
  v9 := Tryz.zeroValue9
  t26 := Tryz.underlying83
  a26 := Tryz.isAgg83
  z26 := Tryz.sizeOf83
  v26 := Tryz.zeroValue83
  t27 := Tryz.underlying83
  a27 := Tryz.isAgg83
  z27 := Tryz.sizeOf83
  v27 := Tryz.zeroValue83
  t29 := Tryz.underlying9
  a29 := Tryz.isAgg9
  z29 := Tryz.sizeOf9
  v29 := Tryz.zeroValue9
  t32 := Tryz.underlying166
  a32 := Tryz.isAgg166
  z32 := Tryz.sizeOf166
  v32 := Tryz.zeroValue166
  t35 := Tryz.underlying183
  a35 := Tryz.isAgg183
  z35 := Tryz.sizeOf183
  v35 := Tryz.zeroValue183
  t36 := Tryz.underlying184
  a36 := Tryz.isAgg184
  z36 := Tryz.sizeOf184
  v36 := Tryz.zeroValue184
  t41 := Tryz.underlying161
  a41 := Tryz.isAgg161
  z41 := Tryz.sizeOf161
  v41 := Tryz.zeroValue161
  t44 := Tryz.underlying190
  a44 := Tryz.isAgg190
  z44 := Tryz.sizeOf190
  v44 := Tryz.zeroValue190
  t46 := Tryz.underlying192
  a46 := Tryz.isAgg192
  z46 := Tryz.sizeOf192
  v46 := Tryz.zeroValue192
  t53 := Tryz.underlying211
  a53 := Tryz.isAgg211
  z53 := Tryz.sizeOf211
  v53 := Tryz.zeroValue211
  t57 := Tryz.underlying215
  a57 := Tryz.isAgg215
  z57 := Tryz.sizeOf215
  v57 := Tryz.zeroValue215
  t63 := Tryz.underlying224
  a63 := Tryz.isAgg224
  z63 := Tryz.sizeOf224
  v63 := Tryz.zeroValue224
  t64 := Tryz.underlying225
  a64 := Tryz.isAgg225
  z64 := Tryz.sizeOf225
  v64 := Tryz.zeroValue225 }
open Go.RowKit Go.Maps Go.Sort in
theorem Tryz.sorts42 (m : Nat) : AnyZ.SortsIn Tryz.prog Tryz.sorted42_ren Fence.wide m :=
  ⟨fun blk off cap ss W hH hblk hsz => callsIn_wide.2 (AnyM.slices_Sort_string Tryz.sort92 blk off cap ss W hH hblk hsz),
   fun p cap W => callsIn_wide.2 (AnyM.slices_Sort_string_none Tryz.sort92 p cap W)⟩
open Go.RowKit Go.Maps Go.Sort in
/-- maps.Keys: a function value over one new block, which holds the map. -/
theorem Tryz.mapsKeys_string (mb : Option Nat) (W : World) : Calls Tryz.prog 43 #[.map mb] W fun e w' => e = .returned (.func (.func 93) #[] #[.pointer (some ⟨W.heap.size, 0, none⟩)]) ∧ w' = W.alloc (.cells #[.map mb] 80) :=
  (callsIn_wide (n := 5)).1 (AnyZ.keys_in Tryz.keys43 Fence.wide 5 trivial rfl mb W)
open Go.RowKit Go.Maps Go.Sort in
/-- slices.Sorted of a map's keys: a new slice that holds them, sorted. -/
theorem Tryz.sortedKeys_string {H : Type} (b nn : Nat) (D0 : DataW H) (R : Value → Option (DataW H × List MemPlace)) (w : World) (hown : w.ownsMap Tryz.prog 9 R b nn D0) (hmax : Maps.size D0 ≤ maxLen) (hbytes : Maps.size D0 * 16 ≤ 140737488355328) :
    Calls Tryz.prog 42 #[.func (.func 93) #[] #[.pointer (some ⟨w.heap.size, 0, none⟩)]] (w.alloc (.cells #[.map (some b)] 80)) fun e w' => ∃ (v : Value) (ss : List (List UInt8)), e = .returned v ∧ ss.Perm (strKeys D0) ∧
      w'.ownsRow (w.alloc (.cells #[.map (some b)] 80)).heap.size 9 1 v ss.length ((ss.mergeSort (fun x y => decide (x ≤ y))).map encStr) ∧ (v = .slice none 0 0 ↔ ss = []) ∧ Below (w.alloc (.cells #[.map (some b)] 80)).heap.size (w.alloc (.cells #[.map (some b)] 80)) w' := by
  refine (callsIn_wide (n := 5)).1 ?_
  have hbl := hown.lt
  have hseq : SeqGives Fence.wide 2 Tryz.prog 93 #[.pointer (some ⟨w.heap.size, 0, none⟩)] encStr (fun ss => ss.Perm (strKeys D0)) (Maps.size D0) (w.alloc (.cells #[.map (some b)] 80)) :=
    AnyZ.keys_gives (ρ := Tryz.keys43_ren) { Tryz.keys43 with } Fence.wide _ trivial rfl (by omega) w.heap.size b nn D0 _ (by simp) (by simp) (by
      obtain ⟨es, clock, hb, Ft, hs, hD⟩ := hown
      exact ⟨es, clock, (Below.heap_alloc _ _ b hbl).trans hb, Ft, hs, hD⟩)
  exact AnyZ.sorted_in Tryz.sorted42 Fence.wide 5 trivial trivial trivial trivial rfl (by omega) (Tryz.sorts42 _) (enters_of Tryz.func92 (by kernel_rfl) rfl) 93 #[.pointer (some ⟨w.heap.size, 0, none⟩)] trivial (enters_of Tryz.func93 (by kernel_rfl) rfl) _ _ hmax hbytes _ hseq
def Tryz.keys68_ren : Go.Shelf.Ren := ⟨fun | 7 => 68 | 10 => 105 | n => n, fun | 23 => 90 | 26 => 3 | 3 => 92 | 28 => 117 | 0 => 0 | 27 => 116 | 33 => 95 | 4 => 4 | n => n, fun | n => n⟩
theorem Tryz.keys68 : Go.Proofs.SlLaysZI.n7 Tryz.prog Tryz.keys68_ren := {
  mixed := by kernel_rfl
  f7 := ⟨Tryz.f68.name, by decide, Tryz.func68.trans (congrArg some (by kernel_rfl))⟩
  f10 := ⟨Tryz.f105.name, by decide, Tryz.func105.trans (congrArg some (by kernel_rfl))⟩
  t0 := Tryz.underlying0
  a0 := Tryz.isAgg0
  z0 := Tryz.sizeOf0
  v0 := Tryz.zeroValue0
  t4 := Tryz.underlying4
  a4 := Tryz.isAgg4
  z4 := Tryz.sizeOf4
  v4 := Tryz.zeroValue4
  t23 := Tryz.underlying90
  a23 := Tryz.isAgg90
  z23 := Tryz.sizeOf90
  v23 := Tryz.zeroValue90
  t26 := Tryz.underlying3
  a26 := Tryz.isAgg3
  z26 := Tryz.sizeOf3
  v26 := Tryz.zeroValue3
  t27 := Tryz.underlying116
  a27 := Tryz.isAgg116
  z27 := Tryz.sizeOf116
  v27 := Tryz.zeroValue116
  t28 := Tryz.underlying117
  a28 := Tryz.isAgg117
  z28 := Tryz.sizeOf117
  v28 := Tryz.zeroValue117
  t33 := Tryz.underlying95
  a33 := Tryz.isAgg95
  z33 := Tryz.sizeOf95
  v33 := Tryz.zeroValue95 }
def Tryz.sorted67_ren : Go.Shelf.Ren := ⟨fun | 6 => 67 | 8 => 103 | 9 => 104 | 11 => 135 | 13 => 129 | 12 => 136 | 23 => 159 | 24 => 160 | 14 => 163 | 15 => 164 | 16 => 165 | 17 => 166 | 18 => 167 | 19 => 168 | 20 => 169 | 21 => 170 | 22 => 171 | 25 => 189 | 26 => 184 | 27 => 185 | 28 => 190 | 29 => 191 | 30 => 192 | 31 => 201 | n => n, fun | 26 => 3 | 28 => 117 | 24 => 39 | 0 => 0 | 3 => 3 | 37 => 166 | 48 => 190 | 50 => 192 | 4 => 4 | 40 => 184 | 39 => 183 | 45 => 161 | 5 => 5 | 9 => 9 | 51 => 211 | 55 => 215 | 57 => 224 | 58 => 225 | 33 => 95 | n => n, fun | n => n⟩
theorem Tryz.sorted67 : Go.Proofs.SlLaysZI.n6 Tryz.prog Tryz.sorted67_ren := {
  mixed := by kernel_rfl
  f6 := ⟨Tryz.f67.name, by decide, Tryz.func67.trans (congrArg some (by kernel_rfl))⟩
  f8 := ⟨Tryz.f103.name, by decide, Tryz.func103.trans (congrArg some (by kernel_rfl))⟩
  f11 := ⟨Tryz.f135.name, by decide, Tryz.func135.trans (congrArg some (by kernel_rfl))⟩
  t0 := Tryz.underlying0
  a0 := Tryz.isAgg0
  z0 := Tryz.sizeOf0
  v0 := Tryz.zeroValue0
  t24 := Tryz.underlying39
  a24 := Tryz.isAgg39
  z24 := Tryz.sizeOf39
  v24 := Tryz.zeroValue39
  t26 := Tryz.underlying3
  a26 := Tryz.isAgg3
  z26 := Tryz.sizeOf3
  v26 := Tryz.zeroValue3
  t28 := Tryz.underlying117
  a28 := Tryz.isAgg117
  z28 := Tryz.sizeOf117
  v28 := Tryz.zeroValue117
  i26 := by kernel_rfl }
def Tryz.sort104_ren : Go.Shelf.Ren := ⟨fun | 5 => 104 | 8 => 129 | 7 => 136 | 19 => 159 | 20 => 160 | 10 => 163 | 11 => 164 | 12 => 165 | 13 => 166 | 14 => 167 | 15 => 168 | 16 => 169 | 17 => 170 | 18 => 171 | 30 => 189 | 31 => 184 | 32 => 185 | 33 => 190 | 34 => 191 | 35 => 192 | 40 => 201 | n => n, fun | 23 => 39 | 25 => 3 | 3 => 3 | 32 => 166 | 22 => 39 | 0 => 0 | 44 => 190 | 46 => 192 | 4 => 4 | 36 => 184 | 35 => 183 | 41 => 161 | 5 => 5 | 9 => 9 | 53 => 211 | 57 => 215 | 63 => 224 | 64 => 225 | n => n, fun | n => n⟩
theorem Tryz.sort104 : Go.Proofs.SlLaysM.n5 Tryz.prog Tryz.sort104_ren := {
  mixed := by kernel_rfl
  f5 := ⟨Tryz.f104.name, by decide, Tryz.func104.trans (congrArg some (by kernel_rfl))⟩
  f7 := ⟨Tryz.f136.name, by decide, Tryz.func136.trans (congrArg some (by kernel_rfl))⟩
  f8 := Tryz.func129.trans (congrArg some (by kernel_rfl))
  f10 := ⟨Tryz.f163.name, by decide, Tryz.func163.trans (congrArg some (by kernel_rfl))⟩
  f11 := ⟨Tryz.f164.name, by decide, Tryz.func164.trans (congrArg some (by kernel_rfl))⟩
  f12 := ⟨Tryz.f165.name, by decide, Tryz.func165.trans (congrArg some (by kernel_rfl))⟩
  f13 := ⟨Tryz.f166.name, by decide, Tryz.func166.trans (congrArg some (by kernel_rfl))⟩
  f14 := ⟨Tryz.f167.name, by decide, Tryz.func167.trans (congrArg some (by kernel_rfl))⟩
  f15 := ⟨Tryz.f168.name, by decide, Tryz.func168.trans (congrArg some (by kernel_rfl))⟩
  f16 := ⟨Tryz.f169.name, by decide, Tryz.func169.trans (congrArg some (by kernel_rfl))⟩
  f17 := ⟨Tryz.f170.name, by decide, Tryz.func170.trans (congrArg some (by kernel_rfl))⟩
  f18 := ⟨Tryz.f171.name, by decide, Tryz.func171.trans (congrArg some (by kernel_rfl))⟩
  f19 := Tryz.func159.trans (congrArg some (by kernel_rfl))
  f20 := Tryz.func160.trans (congrArg some (by kernel_rfl))
  f30 := ⟨Tryz.f189.name, by decide, Tryz.func189.trans (congrArg some (by kernel_rfl))⟩
  f31 := Tryz.func184.trans (congrArg some (by kernel_rfl))
  f32 := Tryz.func185.trans (congrArg some (by kernel_rfl))
  f33 := ⟨Tryz.f190.name, by decide, Tryz.func190.trans (congrArg some (by kernel_rfl))⟩
  f34 := ⟨Tryz.f191.name, by decide, Tryz.func191.trans (congrArg some (by kernel_rfl))⟩
  f35 := ⟨Tryz.f192.name, by decide, Tryz.func192.trans (congrArg some (by kernel_rfl))⟩
  f40 := ⟨Tryz.f201.name, by decide, Tryz.func201.trans (congrArg some (by kernel_rfl))⟩
  t0 := Tryz.underlying0
  a0 := Tryz.isAgg0
  z0 := Tryz.sizeOf0
  v0 := Tryz.zeroValue0
  t3 := Tryz.underlying3
  a3 := Tryz.isAgg3
  z3 := Tryz.sizeOf3
  v3 := Tryz.zeroValue3
  t4 := Tryz.underlying4
  a4 := Tryz.isAgg4
  z4 := Tryz.sizeOf4
  v4 := Tryz.zeroValue4
  t5 := Tryz.underlying5
  a5 := Tryz.isAgg5
  z5 := Tryz.sizeOf5
  v5 := Tryz.zeroValue5
  t9 := Tryz.underlying9
  a9 := Tryz.isAgg9
  z9 := Tryz.sizeOf9
  v9 := Tryz.zeroValue9
  t22 := Tryz.underlying39
  a22 := Tryz.isAgg39
  z22 := Tryz.sizeOf39
  v22 := Tryz.zeroValue39
  t23 := Tryz.underlying39
  a23 := Tryz.isAgg39
  z23 := Tryz.sizeOf39
  v23 := Tryz.zeroValue39
  t25 := Tryz.underlying3
  a25 := Tryz.isAgg3
  z25 := Tryz.sizeOf3
  v25 := Tryz.zeroValue3
  t32 := Tryz.underlying166
  a32 := Tryz.isAgg166
  z32 := Tryz.sizeOf166
  v32 := Tryz.zeroValue166
  t35 := Tryz.underlying183
  a35 := Tryz.isAgg183
  z35 := Tryz.sizeOf183
  v35 := Tryz.zeroValue183
  t36 := Tryz.underlying184
  a36 := Tryz.isAgg184
  z36 := Tryz.sizeOf184
  v36 := Tryz.zeroValue184
  t41 := Tryz.underlying161
  a41 := Tryz.isAgg161
  z41 := Tryz.sizeOf161
  v41 := Tryz.zeroValue161
  t44 := Tryz.underlying190
  a44 := Tryz.isAgg190
  z44 := Tryz.sizeOf190
  v44 := Tryz.zeroValue190
  t46 := Tryz.underlying192
  a46 := Tryz.isAgg192
  z46 := Tryz.sizeOf192
  v46 := Tryz.zeroValue192
  t53 := Tryz.underlying211
  a53 := Tryz.isAgg211
  z53 := Tryz.sizeOf211
  v53 := Tryz.zeroValue211
  t57 := Tryz.underlying215
  a57 := Tryz.isAgg215
  z57 := Tryz.sizeOf215
  v57 := Tryz.zeroValue215
  t63 := Tryz.underlying224
  a63 := Tryz.isAgg224
  z63 := Tryz.sizeOf224
  v63 := Tryz.zeroValue224
  t64 := Tryz.underlying225
  a64 := Tryz.isAgg225
  z64 := Tryz.sizeOf225
  v64 := Tryz.zeroValue225 }
open Go.RowKit Go.Maps Go.Sort in
theorem Tryz.sorts67 (m : Nat) : AnyZI.SortsIn Tryz.prog Tryz.sorted67_ren Fence.wide m :=
  ⟨fun blk off cap ss W hH hblk hsz => callsIn_wide.2 (AnyM.slices_Sort_int Tryz.sort104 blk off cap ss W hH hblk hsz),
   fun p cap W => callsIn_wide.2 (AnyM.slices_Sort_int_none Tryz.sort104 p cap W)⟩
open Go.RowKit Go.Maps Go.Sort in
/-- maps.Keys: a function value over one new block, which holds the map. -/
theorem Tryz.mapsKeys_int (mb : Option Nat) (W : World) : Calls Tryz.prog 68 #[.map mb] W fun e w' => e = .returned (.func (.func 105) #[] #[.pointer (some ⟨W.heap.size, 0, none⟩)]) ∧ w' = W.alloc (.cells #[.map mb] 90) :=
  (callsIn_wide (n := 5)).1 (AnyZI.keys_in Tryz.keys68 Fence.wide 5 trivial rfl mb W)
open Go.RowKit Go.Maps Go.Sort in
/-- slices.Sorted of a map's keys: a new slice that holds them, sorted. -/
theorem Tryz.sortedKeys_int {H : Type} (b nn : Nat) (D0 : DataW H) (R : Value → Option (DataW H × List MemPlace)) (w : World) (hown : w.ownsMap Tryz.prog 3 R b nn D0) (hmax : Maps.size D0 ≤ maxLen) (hbytes : Maps.size D0 * 8 ≤ 140737488355328) :
    Calls Tryz.prog 67 #[.func (.func 105) #[] #[.pointer (some ⟨w.heap.size, 0, none⟩)]] (w.alloc (.cells #[.map (some b)] 90)) fun e w' => ∃ (v : Value) (ss : List Int), e = .returned v ∧ ss.Perm (intKeys D0) ∧
      w'.ownsRow (w.alloc (.cells #[.map (some b)] 90)).heap.size 3 1 v ss.length ((ss.mergeSort (fun x y => decide (x ≤ y))).map encZ) ∧ (v = .slice none 0 0 ↔ ss = []) ∧ Below (w.alloc (.cells #[.map (some b)] 90)).heap.size (w.alloc (.cells #[.map (some b)] 90)) w' := by
  refine (callsIn_wide (n := 5)).1 ?_
  have hbl := hown.lt
  have hseq : SeqGives Fence.wide 2 Tryz.prog 105 #[.pointer (some ⟨w.heap.size, 0, none⟩)] encZ (fun ss => ss.Perm (intKeys D0)) (Maps.size D0) (w.alloc (.cells #[.map (some b)] 90)) :=
    AnyZI.keys_gives (ρ := Tryz.keys68_ren) { Tryz.keys68 with } Fence.wide _ trivial rfl (by omega) w.heap.size b nn D0 _ (by simp) (by simp) (by
      obtain ⟨es, clock, hb, Ft, hs, hD⟩ := hown
      exact ⟨es, clock, (Below.heap_alloc _ _ b hbl).trans hb, Ft, hs, hD⟩)
  exact AnyZI.sorted_in Tryz.sorted67 Fence.wide 5 trivial trivial trivial trivial rfl (by omega) (Tryz.sorts67 _) (enters_of Tryz.func104 (by kernel_rfl) rfl) 105 #[.pointer (some ⟨w.heap.size, 0, none⟩)] trivial (enters_of Tryz.func105 (by kernel_rfl) rfl) _ _ hmax hbytes _ hseq
end Go.Proofs

/-
  The keys of the map of groups, sorted: the names of the events, in order.
-/
namespace Go.Proofs.YtohfofecbdfkgaaGreatDoor
open Go.RowKit Al

theorem grp_ev (L : List It) (m : ByteArray) : grp L m.data.toList = L.filter (ofEv m) := by
  unfold grp
  refine List.filter_congr fun x _ => ?_
  unfold ofEv
  rw [Bool.eq_iff_iff, decide_eq_true_eq, beq_iff_eq, Lib.toList_data, Lib.toList_data]
theorem encs_strs (E : List ByteArray) : (E.map fun m => m.data.toList).map encStr = strs E := by
  unfold strs
  rw [List.map_map]
  refine List.map_congr_left fun m _ => ?_
  simp [encStr]
theorem Grp.has {w : World} {B mb : Nat} {L : List It} {f : List UInt8 → Option Value} (h : Grp w B mb L f) (s : List UInt8) : (f s).isSome = true ↔ ∃ x ∈ L, x.n.a.ev.data.toList = s := by
  constructor
  · intro hs
    obtain ⟨v, hv⟩ := Option.isSome_iff_exists.1 hs
    have hp := h.some_ s v hv
    obtain ⟨h1, h2⟩ := List.mem_filter.1 (List.getElem_mem (l := grp L s) hp)
    exact ⟨_, h1, of_decide_eq_true h2⟩
  · rintro ⟨x, hx, e⟩
    cases hf : f s with
    | some v => rfl
    | none =>
      have : x ∈ grp L s := List.mem_filter.2 ⟨hx, decide_eq_true e⟩
      rw [h.none_ s hf] at this
      cases this
theorem size_le_of {w : World} {kt : TypeId} {mb n : Nat} {D : DataW Value} (h : w.ownsMap Tryz.prog kt MapR mb n D) : Maps.size D ≤ n := h.size_le
/-- The names of the events of the groups, sorted, in memory of the call's own. -/
theorem names_ (B mb : Nat) (L : List It) (f : List UInt8 → Option Value) (E : List ByteArray) (w : World) (hE : evW L = E) (h : Grp w B mb L f) (hlen : L.length ≤ 1048576) :
    Calls Tryz.prog 42 #[.func (.func 93) #[] #[.pointer (some ⟨w.heap.size, 0, none⟩)]] (w.alloc (.cells #[.map (some mb)] 80))
      fun e w' => ∃ A c, e = .returned (.slice A E.length c) ∧ w'.ownsRow (w.heap.size + 1) 9 1 (.slice A E.length c) E.length (strs E) ∧ Below (w.heap.size + 1) (w.alloc (.cells #[.map (some mb)] 80)) w' := by
  obtain ⟨D, h1, h2⟩ := h.map
  have hsz := h1.size_le
  refine (Tryz.sortedKeys_string mb _ D MapR w h1 (by unfold maxLen; omega) (by omega)).mono ?_
  rintro e w' ⟨v, ss, rfl, hp, hrow, _, hb⟩
  obtain ⟨s1, s2⟩ := evW_spec L
  have hs := keys_sorted h1 (ss0 := (evW L).map fun m => m.data.toList) (List.pairwise_map.2 s1) (fun s => by
    rw [(h2 s).1, h.has s, List.mem_map]
    constructor
    · rintro ⟨m, hm, rfl⟩
      obtain ⟨x, hx, e⟩ := (s2 m).1 hm
      exact ⟨x, hx, by rw [e]⟩
    · rintro ⟨x, hx, e⟩
      exact ⟨x.n.a.ev, (s2 _).2 ⟨x, hx, rfl⟩, e⟩) hp
  rw [hs, hE, encs_strs] at hrow
  have hl : ss.length = E.length := by
    have := congrArg List.length hs
    rw [List.length_mergeSort, List.length_map, hE] at this
    exact this
  rw [hl] at hrow
  obtain ⟨A, c, rfl⟩ := own_form hrow
  rw [show (w.alloc (.cells #[.map (some mb)] 80)).heap.size = w.heap.size + 1 by simp] at hrow hb
  exact ⟨A, c, rfl, hrow, hb⟩
end Go.Proofs.YtohfofecbdfkgaaGreatDoor
