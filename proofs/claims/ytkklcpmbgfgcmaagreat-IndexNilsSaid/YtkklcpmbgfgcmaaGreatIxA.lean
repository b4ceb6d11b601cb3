/- The index in memory: a tree of labels told by its nodes; what the program does to it. Conditions: none. -/
import Derived.Test.YtkklcpmbgfgcmaaGreatLoad
import Derived.Test.YtkklcpmbgfgcmaaGreatTab
import Derived.Test.YtkklcpmbgfgcmaaGreatCel
import Derived.Test.YtkklcpmbgfgcmaaGreatIxP
import Derived.Maps.OwnSet
set_option linter.unusedSimpArgs false
set_option linter.unusedVariables false
set_option linter.unnecessarySimpa false
namespace Go.Proofs.YtkklcpmbgfgcmaaGreat
open Go.RowKit
open Go.Maps (Keyed)
variable {lo : Nat}
def itCells (x : It) : List Value := [.string x.key.name, .string x.key.domain, .string x.key.path, .string x.ck.value, .bool x.ck.hostOnly, .bool x.ck.secure, .bool x.ck.httpOnly, .bool x.ck.persistent, .int .i64 x.ck.expiry, .int .i64 x.ck.creation, .int .i64 x.ck.access]
abbrev itVal (x : It) : Value := .agg #[.string x.key.name, .string x.key.domain, .string x.key.path, .string x.ck.value, .bool x.ck.hostOnly, .bool x.ck.secure, .bool x.ck.httpOnly, .bool x.ck.persistent, .int .i64 x.ck.expiry, .int .i64 x.ck.creation, .int .i64 x.ck.access]
abbrev keyV (k : Key) : Value := .agg #[.string k.name, .string k.domain, .string k.path]
def itsVals (l : List It) : List Value := l.flatMap itCells
def it0 : It := ⟨key0, ck0⟩
theorem itsVals_append (l m : List It) : itsVals (l ++ m) = itsVals l ++ itsVals m := by simp [itsVals]
theorem itsVals_cons (x : It) (l : List It) : itsVals (x :: l) = itCells x ++ itsVals l := rfl
theorem itsVals_one (x : It) : itsVals [x] = itCells x := by simp [itsVals]
theorem itsVals_length (l : List It) : (itsVals l).length = l.length * 11 := by
 induction l with
 | nil => rfl
 | cons x l ih => rw [itsVals_cons, List.length_append, ih]; simp [itCells]; omega
theorem itCells_one (x : It) : ∀ u ∈ itCells x, u.oneCell' = true := by
 intro u hu
 simp only [itCells, List.mem_cons, List.not_mem_nil, or_false] at hu
 rcases hu with rfl | rfl | rfl | rfl | rfl | rfl | rfl | rfl | rfl | rfl | rfl <;> rfl
theorem itsVals_one' (l : List It) : ∀ u ∈ itsVals l, u.oneCell' = true := by
 intro u hu
 unfold itsVals at hu
 obtain ⟨x, _, h⟩ := List.mem_flatMap.1 hu
 exact itCells_one x u h
theorem itsVals_get : ∀ (l : List It) (i : Nat) (h : i < l.length) (j : Nat), j < 11 → (itsVals l)[i * 11 + j]? = (itCells l[i])[j]?
 | [], i, h, _, _ => by simp at h
 | x :: l, 0, _, j, hj => by
   rw [itsVals_cons, List.getElem?_append_left (by simp [itCells]; omega)]
   simp
 | x :: l, i + 1, h, j, hj => by
   have ih := itsVals_get l i (by simpa using h) j hj
   rw [itsVals_cons, List.getElem?_append_right (by simp [itCells]; omega)]
   rw [show (i + 1) * 11 + j - (itCells x).length = i * 11 + j by simp [itCells]; omega, ih]
   simp
theorem itsVals_take : ∀ (l : List It) (k : Nat), (itsVals l).take (k * 11) = itsVals (l.take k)
 | [], k => by simp [itsVals]
 | x :: l, 0 => by simp [itsVals]
 | x :: l, k + 1 => by
   have ih := itsVals_take l k
   rw [List.take_succ_cons, itsVals_cons, itsVals_cons, List.take_append, List.take_of_length_le (by simp [itCells]; omega), show (k + 1) * 11 - (itCells x).length = k * 11 by simp [itCells]; omega, ih]
theorem itsVals_drop : ∀ (l : List It) (k : Nat), (itsVals l).drop (k * 11) = itsVals (l.drop k)
 | [], k => by simp [itsVals]
 | x :: l, 0 => by simp
 | x :: l, k + 1 => by
   rw [List.drop_succ_cons, itsVals_cons, List.drop_append, List.drop_eq_nil_of_le (by simp [itCells]; omega)]
   rw [show (k + 1) * 11 - (itCells x).length = k * 11 by simp [itCells]; omega, itsVals_drop l k]
   rfl
/-- items in memory -/
abbrev ItsIn (w : World) (a : Option Addr) (l : List It) : Prop := CellsIn w a (itsVals l)
theorem ItsIn.at {w : World} {a : Option Addr} {l : List It} (h : ItsIn w a l) {k : Nat} (hk : k < l.length) : ∃ A off, a = some ⟨A, off, none⟩ ∧ w.rangeAt A (off + k * 11) (itCells l[k]) := by
 rcases h with h | ⟨A, off, h1, h2⟩
 ·have := congrArg List.length h
  rw [itsVals_length] at this
  simp at this
  omega
 ·refine ⟨A, off, h1, fun j v hv => ?_⟩
  have hj : j < 11 := (List.getElem?_eq_some_iff.1 hv).1
  have := h2 (k * 11 + j) v (by rw [itsVals_get l k hk j hj]; exact hv)
  rwa [← Nat.add_assoc] at this
theorem Tryz.infoItem : (Tryz.prog.info? 27).map (fun i => (i.zero, i.size, i.bytes)) = some (some (itVal it0), 11, 96) := by kernel_rfl
theorem itCells_box (x : It) (w : World) (t : TypeId) : (w.alloc (Obj.cells #[.string x.key.name, .string x.key.domain, .string x.key.path, .string x.ck.value, .bool x.ck.hostOnly, .bool x.ck.secure, .bool x.ck.httpOnly, .bool x.ck.persistent, .int .i64 x.ck.expiry, .int .i64 x.ck.creation, .int .i64 x.ck.access] t)).rangeAt w.heap.size 0 (itCells x) := by
 intro j v hv
 rw [Nat.zero_add, World.cell?_alloc_new]
 exact (by simpa [itCells] using hv)
theorem its_new (w : World) (x : It) (t : TypeId) : ItsIn (w.alloc (.cells (itCells x).toArray t)) (some ⟨w.heap.size, 0, none⟩) [x] := by
 refine Or.inr ⟨_, _, rfl, fun j u hu => ?_⟩
 rw [Nat.zero_add, World.cell?_alloc_new]
 rw [itsVals_one] at hu
 simpa using hu
/-! ### the tree -/
theorem slaw : Keyed Tryz.prog 9 := Maps.string_keyed Tryz.underlying9
theorem kStr : Kind Tryz.prog 9 Value.string (fun s : ByteArray => s.size ≤ maxLen) :=
 ⟨slaw, fun x y h => by cases h; rfl, fun x h => ⟨_, Go.WideMaps.keyOf_string_mk Tryz.underlying9 h⟩⟩
abbrev ndVal (b : Nat) : Value := .pointer (some ⟨b, 0, none⟩)
abbrev STab (w : World) (m : Nat) (t : List (ByteArray × Nat)) : Prop := Tab Tryz.prog 9 Value.string (fun s : ByteArray => s.size ≤ maxLen) ndVal w m t
theorem zeroNode (w : World) : (zeroValue 44).run Tryz.prog w = .ok (.pointer none) w := by kernel_rfl
/-- a node: its block, its items, its map's block -/
structure Nd where
 b : Nat
 its : List It
 mb : Option Nat
abbrev Tree := Path → Option Nd
def Tree.upd (T : Tree) (p : Path) (x : Option Nd) : Tree := fun q => if q = p then x else T q
theorem Tree.upd_same (T : Tree) (p : Path) (x : Option Nd) : T.upd p x p = x := if_pos rfl
theorem Tree.upd_other (T : Tree) {p q : Path} (x : Option Nd) (h : q ≠ p) : T.upd p x q = T q := if_neg h
/-- what the nodes hold -/
def Tree.its (T : Tree) (p : Path) : Option (List It) := (T p).map (·.its)
structure NdIn (w : World) (T : Tree) (p : Path) (nd : Nd) (B : Nat) : Prop where
 its : ∃ a cap, w.cell? ⟨nd.b, 0, none⟩ = some (.slice a nd.its.length cap) ∧ nd.its.length ≤ cap ∧ ItsIn w a nd.its
 bel : w.cell? ⟨nd.b, 1, none⟩ = some (.map nd.mb)
 no : nd.mb = none → ∀ s, T (p ++ [s]) = none
 tab : ∀ m, nd.mb = some m → ∃ t, STab w m t ∧ t.length ≤ B ∧ (∀ q ∈ t, ∃ c, T (p ++ [bl q.1]) = some c ∧ c.b = q.2) ∧ ∀ s c, T (p ++ [s]) = some c → (mkS s, c.b) ∈ t
/-- block x holds an index of n items, whose nodes are T; no map of it has more than B entries -/
structure TrIn (lo : Nat) (w : World) (x : Nat) (n : Int) (B : Nat) (T : Tree) : Prop where
 low : ∀ p nd, T p = some nd → lo ≤ nd.b ∧ ∀ m, nd.mb = some m → lo ≤ m
 top : ∃ r, T [] = some r ∧ r.b = x
 idx : ∃ v mv, w.heap[x]? = some (.cells #[v, mv, .int .i64 n] 49 (0, 0))
 blk : ∀ p nd, p ≠ [] → T p = some nd → ∃ v mv, w.heap[nd.b]? = some (.cells #[v, mv] 47 (0, 0))
 nodes : ∀ p nd, T p = some nd → NdIn w T p nd B
 up : ∀ p s nd, T (p ++ [s]) = some nd → ∃ i, T p = some i
 ab : ∀ p q i j, T p = some i → T q = some j → i.b = j.b → p = q
 am : ∀ p q i j m, T p = some i → T q = some j → i.mb = some m → j.mb = some m → p = q
/-- blocks that an index may own -/
def IxB (lo : Nat) (w : World) (k : Nat) : Prop := lo ≤ k ∧ ((∃ c0 c1 f, w.heap[k]? = some (.cells #[c0, c1] 47 f)) ∨ (∃ c0 c1 c2 f, w.heap[k]? = some (.cells #[c0, c1, c2] 49 f)) ∨ ∃ es c, w.heap[k]? = some (.map es c))
theorem IxB.of {w w' : World} {k : Nat} (h : IxB lo w k) (e : w'.heap[k]? = w.heap[k]?) : IxB lo w' k := by
 unfold IxB at *; rw [e]; exact h
theorem IxB.back {w w' : World} (hf : Fr (IxB lo w) w w') {k : Nat} (hk : k < w.heap.size) (h : IxB lo w' k) : IxB lo w k := by
 by_cases e : IxB lo w k
 ·exact e
 ·exact h.of (hf.block k hk e).symm
abbrev IxFr (lo : Nat) (w w' : World) : Prop := Fr (IxB lo w) w w'
theorem IxFr.trans {a b c : World} (h : IxFr lo a b) (k : IxFr lo b c) : IxFr lo a c :=
 ⟨k.os.trans h.os, k.tape.trans h.tape, k.output.trans h.output, Nat.le_trans h.size k.size, fun i hi hs =>
  (k.block i (Nat.lt_of_lt_of_le hi h.size) (fun g => hs (g.back h hi))).trans (h.block i hi hs)⟩
theorem IxFr.of_below {a b : World} (h : Below a.heap.size a b) : IxFr lo a b := Fr.of_below h
theorem small_not {w : World} {b A off : Nat} {cs : Array Value} {t : TypeId} {f : Nat × Nat} (h : w.heap[b]? = some (.cells cs t f)) (hs : cs.size ≤ 3) {x : It} (hr : w.rangeAt A off (itCells x)) : A ≠ b := fun e => by
 subst e
 have := hr 10 _ rfl
 unfold World.cell? at this
 simp only [h] at this
 have h2 := (Array.getElem?_eq_some_iff.1 this).1
 omega
theorem its_notIx {w : World} {a : Option Addr} {l : List It} (h : ItsIn w a l) : l = [] ∨ ∃ A off, a = some ⟨A, off, none⟩ ∧ w.rangeAt A off (itsVals l) ∧ A < w.heap.size ∧ ¬ IxB lo w A := by
 cases l with
 | nil => exact Or.inl rfl
 | cons x l =>
   right
   obtain ⟨A, off, ha, hr⟩ := h.at (k := 0) (by simp)
   rw [Nat.zero_mul, Nat.add_zero] at hr
   have h2 : w.rangeAt A off (itsVals (x :: l)) := by
    rcases h with h | ⟨A', off', ha', h2⟩
    ·cases h
    ·rw [ha] at ha'
     cases ha'
     exact h2
   refine ⟨A, off, ha, h2, World.block_lt_of_cell? w _ (hr 0 _ rfl), fun hx => ?_⟩
   rcases hx.2 with ⟨c0, c1, f, hx⟩ | ⟨c0, c1, c2, f, hx⟩ | ⟨es, c, hx⟩
   ·exact small_not hx (by simp) hr rfl
   ·exact small_not hx (by simp) hr rfl
   ·have := hr 0 _ rfl
    unfold World.cell? at this
    simp [hx] at this
theorem ItsIn.ix {w w' : World} {a : Option Addr} {l : List It} (h : ItsIn w a l) (hf : IxFr lo w w') : ItsIn w' a l := by
 rcases its_notIx h with rfl | ⟨A, off, ha, hr, hlt, hn⟩
 ·exact Or.inl rfl
 ·exact Or.inr ⟨A, off, ha, fun j v hv => (World.cell?_of_block (w := w) (hf.block A hlt hn)).trans (hr j v hv)⟩
section
variable {w w' : World} {x : Nat} {n : Int} {B : Nat} {T : Tree} {p : Path} {nd : Nd}
theorem TrIn.x_low (h : TrIn lo w x n B T) : lo ≤ x := by
 obtain ⟨r, h1, h2⟩ := h.top
 rw [← h2]
 exact (h.low _ _ h1).1
theorem TrIn.x_lt (h : TrIn lo w x n B T) : x < w.heap.size := by
 obtain ⟨v, mv, h1⟩ := h.idx
 exact (Array.getElem?_eq_some_iff.1 h1).1
/-- a node's block -/
theorem TrIn.block (h : TrIn lo w x n B T) (hp : T p = some nd) : ∃ cs t, w.heap[nd.b]? = some (.cells cs t (0, 0)) ∧ cs.size ≤ 3 ∧ 2 ≤ cs.size ∧ IxB lo w nd.b := by
 by_cases e : p = []
 ·subst e
  obtain ⟨r, h1, h2⟩ := h.top
  rw [h1] at hp
  cases hp
  obtain ⟨v, mv, h3⟩ := h.idx
  have hlo := (h.low _ _ h1).1
  rw [h2] at hlo ⊢
  exact ⟨_, _, h3, by simp, by simp, hlo, Or.inr (Or.inl ⟨_, _, _, _, h3⟩)⟩
 ·obtain ⟨v, mv, h3⟩ := h.blk p nd e hp
  exact ⟨_, _, h3, by simp, by simp, (h.low _ _ hp).1, Or.inl ⟨_, _, _, h3⟩⟩
theorem TrIn.ixb (h : TrIn lo w x n B T) (hp : T p = some nd) : IxB lo w nd.b := by
 obtain ⟨cs, t, _, _, _, h1⟩ := h.block hp
 exact h1
theorem TrIn.lt (h : TrIn lo w x n B T) (hp : T p = some nd) : nd.b < w.heap.size := by
 obtain ⟨cs, t, h1, _⟩ := h.block hp
 exact (Array.getElem?_eq_some_iff.1 h1).1
theorem TrIn.unfrozen (h : TrIn lo w x n B T) (hp : T p = some nd) (o : Nat) : w.frozen? ⟨nd.b, o, none⟩ = false := by
 obtain ⟨cs, t, h1, _⟩ := h.block hp
 simp [World.frozen?, h1]
theorem TrIn.idx_cell (h : TrIn lo w x n B T) : w.cell? ⟨x, 2, none⟩ = some (.int .i64 n) ∧ w.frozen? ⟨x, 2, none⟩ = false := by
 obtain ⟨v, mv, h1⟩ := h.idx
 simp [World.cell?, World.frozen?, h1]
theorem TrIn.mapped (h : TrIn lo w x n B T) (hp : T p = some nd) {m : Nat} (hm : nd.mb = some m) : (∃ es c, w.heap[m]? = some (.map es c)) ∧ m < w.heap.size := by
 obtain ⟨t, h1, _⟩ := (h.nodes p nd hp).tab m hm
 exact ⟨h1.mapped, h1.lt⟩
theorem TrIn.map_ne (h : TrIn lo w x n B T) {q : Path} {i : Nd} (hp : T p = some nd) (hq : T q = some i) {m : Nat} (hm : nd.mb = some m) : i.b ≠ m := fun e => by
 obtain ⟨⟨es, c, h1⟩, _⟩ := h.mapped hp hm
 obtain ⟨cs, t, h2, _⟩ := h.block hq
 rw [e, h1] at h2
 cases h2
theorem TrIn.x_ne (h : TrIn lo w x n B T) (hp : T p = some nd) {m : Nat} (hm : nd.mb = some m) : x ≠ m := fun e => by
 obtain ⟨r, h1, h2⟩ := h.top
 exact h.map_ne hp h1 hm (by rw [h2, e])
theorem NdIn.kept (h : NdIn w T p nd B) (h1 : nd.b < w.heap.size) (hb : Below w.heap.size w w') : NdIn w' T p nd B := by
 obtain ⟨a, cap, h2, h3, h4⟩ := h.its
 refine ⟨⟨a, cap, Go.Proofs.YtkklcpmbgfgcmaaGreat.kept hb h2, h3, h4.kept hb⟩, Go.Proofs.YtkklcpmbgfgcmaaGreat.kept hb h.bel, h.no, fun m hm => ?_⟩
 obtain ⟨t, g1, g2⟩ := h.tab m hm
 exact ⟨t, g1.kept hb, g2⟩
theorem TrIn.kept (h : TrIn lo w x n B T) (hb : Below w.heap.size w w') : TrIn lo w' x n B T := by
 refine ⟨h.low, h.top, ?_, fun p nd hp hT => ?_, fun p nd hp => (h.nodes p nd hp).kept (h.lt hp) hb, h.up, h.ab, h.am⟩
 ·obtain ⟨v, mv, h1⟩ := h.idx
  exact ⟨v, mv, (hb.block x h.x_lt).trans h1⟩
 ·obtain ⟨v, mv, h1⟩ := h.blk p nd hp hT
  exact ⟨v, mv, (hb.block _ (h.lt hT)).trans h1⟩
theorem TrIn.mono (h : TrIn lo w x n B T) {C : Nat} (hC : B ≤ C) : TrIn lo w x n C T :=
 ⟨h.low, h.top, h.idx, h.blk, fun p nd hp => by
  have g := h.nodes p nd hp
  exact ⟨g.its, g.bel, g.no, fun m hm => by
   obtain ⟨t, g1, g2, g3⟩ := g.tab m hm
   exact ⟨t, g1, Nat.le_trans g2 hC, g3⟩⟩, h.up, h.ab, h.am⟩
/-- a child is looked up -/
def kidVal (T : Tree) (p : Path) (s : Bytes) : Value := match T (p ++ [s]) with | some c => ndVal c.b | none => .pointer none
theorem TrIn.look (h : TrIn lo w x n B T) (hp : T p = some nd) (s : ByteArray) (hs : s.size ≤ maxLen) : (Instr.lookup 45 (.map nd.mb) (.string s) false).run Tryz.prog w = .ok (kidVal T p (bl s)) w := by
 have g := h.nodes p nd hp
 cases hm : nd.mb with
 | none =>
   unfold kidVal
   rw [g.no hm (bl s)]
   have hkey := Go.WideMaps.keyOf_string_mk (P := Tryz.prog) (k := 9) Tryz.underlying9 hs
   rcases slaw.find w hkey [] (fun x hx => (nomatch hx)) with ⟨h1, _⟩ | ⟨j, e0, _, h2, _⟩
   ·simp [Instr.lookup, run_underlying Tryz.underlying45, slaw.check w _ hkey, h1, zeroNode, Result.andThen]
   ·cases h2
 | some m =>
   obtain ⟨t, g1, g2, g3, g4⟩ := g.tab m hm
   unfold kidVal
   cases hT : T (p ++ [bl s]) with
   | none =>
     refine (Tab.look_miss kStr g1 Tryz.underlying45 (zeroNode w) hs (fun q hq e => ?_) false).trans rfl
     obtain ⟨c, hc, _⟩ := g3 q hq
     rw [e, hT] at hc
     cases hc
   | some c =>
     have hmem := g4 _ _ hT
     rw [show mkS (bl s) = s from mkS_bl s] at hmem
     exact Tab.look_hit kStr g1 Tryz.underlying45 (zeroNode w) hmem false
/-- how many children there are: none -/
theorem TrIn.len (h : TrIn lo w x n B T) (hp : T p = some nd) (ty : TypeId) : ∃ k : Nat, (Builtin.len_ #[45] ty #[.map nd.mb]).run Tryz.prog w = .ok (.int .i64 k) w ∧ k ≤ B ∧ (k = 0 ↔ ∀ s, T (p ++ [s]) = none) := by
 have g := h.nodes p nd hp
 cases hm : nd.mb with
 | none =>
   refine ⟨0, ?_, Nat.zero_le _, ⟨fun _ => g.no hm, fun _ => rfl⟩⟩
   simp [Builtin.len_, Builtin.lenOf, run_underlying Tryz.underlying45]
   rfl
 | some m =>
   obtain ⟨t, g1, g2, g3, g4⟩ := g.tab m hm
   refine ⟨t.length, Tab.len g1 Tryz.underlying45 ty, g2, ⟨fun h0 s => ?_, fun h0 => ?_⟩⟩
   ·cases hT : T (p ++ [s]) with
    | none => rfl
    | some c =>
      have := g4 _ _ hT
      rw [List.eq_nil_of_length_eq_zero h0] at this
      cases this
   ·cases t with
    | nil => rfl
    | cons q t =>
      obtain ⟨c, hc, _⟩ := g3 q List.mem_cons_self
      rw [h0] at hc
      cases hc
end
end Go.Proofs.YtkklcpmbgfgcmaaGreat
