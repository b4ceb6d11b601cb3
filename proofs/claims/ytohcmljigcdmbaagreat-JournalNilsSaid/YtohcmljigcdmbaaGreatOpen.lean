/- What the references pack: numbers, texts, dots, stamps. Conditions: at most 2^29 bytes. -/
import Derived.Test.YtohcmljigcdmbaaGreatInj
import Derived.Test.YtohcmljigcdmbaaGreatClone
import Derived.Maps.AppendAt
import Derived.Test.YtohcmljigcdmbaaGreatCrc
import Derived.Test.YtohcmljigcdmbaaGreatMkB
import Derived.Test.YtohcmljigcdmbaaGreatReadK
import Derived.Test.YtohcmljigcdmbaaGreatLoad
import Derived.Test.YtohcmljigcdmbaaGreatDStep
import Derived.ProofKit
import Derived.Deep.Slices
import Derived.OpenShut
import Derived.Test.YtohcmljigcdmbaaGreatKeys
set_option linter.unusedSimpArgs false
set_option linter.unusedVariables false
set_option linter.unnecessarySimpa false
set_option maxHeartbeats 16000000
set_option maxRecDepth 100000
namespace Go.Proofs.YtohcmljigcdmbaaGreat
open Go.RowKit
theorem shortB_ne (n : Nat) : shortB n ≠ [] := by
 rw [shortB]; split <;> simp
theorem own_below {w w1 : World} {base : Nat} {v : Value} {n : Nat} {xs : List Value} (h : w.ownsRow base 5 1 v n xs) (hb : Below w.heap.size w w1) : w1.ownsRow base 5 1 v n xs := ownsRow_below h hb
theorem range_grown {w w' : World} {b o : Nat} {cs : List Value} {g : Option Nat} (h : w.rangeAt b o cs) (hg : w.grownBy w' g) (hb : b < w.heap.size) (hne : some b ≠ g) : w'.rangeAt b o cs := fun j v hv => (World.cell?_of_block (hg.block b hb hne)).trans (h j v hv)
theorem own_ne {v v2 : Value} {n b : Nat} (hat : v2.ownBlock = v.ownBlock ∨ v2.ownBlock = some n) (hne : ∀ g, v.ownBlock = some g → g ≠ b) (hb : b < n) : ∀ g, v2.ownBlock = some g → g ≠ b := by
 intro g hg
 rcases hat with h | h
 ·exact hne g (h.symm.trans hg)
 ·rw [h] at hg; cases hg; omega
/-- what has been packed so far, and the local cookie in block bc -/
structure OutInv (W0 : World) (bc : Nat) (ck : Ck) (v : Value) (L : Bytes) (W : World) : Prop where
 own : W.ownsRow W0.heap.size 5 1 v L.length (byteVals L)
 bel : Below W0.heap.size W0 W
 K : W.rangeAt bc 0 (ckCells ck)
 ne : ∀ g, v.ownBlock = some g → g ≠ bc
 lt : bc < W.heap.size
theorem OutInv.step {W0 : World} {bc : Nat} {ck : Ck} {v : Value} {L : Bytes} {w w' : World} (h : OutInv W0 bc ck v L w) (hb : Below w.heap.size w w') : OutInv W0 bc ck v L w' :=
 ⟨own_below h.own hb, below2 h.bel hb, rangeAt_kept h.K hb, h.ne, Nat.lt_of_lt_of_le h.lt hb.size⟩
theorem OutInv.app {W0 : World} {bc : Nat} {ck : Ck} {v v2 : Value} {L M : Bytes} {w w2 : World} (h : OutInv W0 bc ck v L w) (hown2 : w2.ownsRow W0.heap.size 5 1 v2 (L.length + M.length) (byteVals L ++ byteVals M))
 (hg : w.grownBy w2 v.ownBlock) (hat : v2.ownBlock = v.ownBlock ∨ v2.ownBlock = some w.heap.size) : OutInv W0 bc ck v2 (L ++ M) w2 :=
 ⟨by rw [byteVals_append, List.length_append]; exact hown2, h.bel.grown hg h.bel.size (fun k hk => (h.own.lt k hk).1), range_grown h.K hg h.lt (fun e => h.ne _ e.symm rfl), own_ne hat h.ne h.lt, Nat.lt_of_lt_of_le h.lt hg.size⟩
theorem numLE_le4 (n : Nat) (h : n < 4294967296) : numLE (le4 n) = n := by
 have e : ∀ k, (UInt8.ofNat (k % 256)).toNat = k % 256 := fun k => by rw [UInt8.toNat_ofNat']; omega
 unfold le4 numLE numLE numLE numLE numLE
 rw [e, e, e, e]; omega
theorem frameB_len (b : Bytes) : (frameB b).length = sizeN b.length := by
 unfold frameB sizeN le4; simp; omega
theorem frGet_frame (b s : Bytes) (hb : b.length ≤ 1048576) : frGet (frameB b ++ s) = (b, sizeN b.length, 0) := by
 have e : frameB b ++ s = shortB b.length ++ (b ++ (le4 (crcSum b) ++ s)) := by unfold frameB; simp
 have hg : getS (frameB b ++ s) = (b.length, (shortB b.length).length, 0) := by rw [e]; exact getS_short _ _ (by omega)
 have hl : (frameB b ++ s).length = (shortB b.length).length + (b.length + (4 + s.length)) := by rw [e]; simp [le4]; omega
 have hd : (frameB b ++ s).drop (shortB b.length).length = b ++ (le4 (crcSum b) ++ s) := by rw [e]; simp
 have hd2 : (frameB b ++ s).drop ((shortB b.length).length + b.length) = le4 (crcSum b) ++ s := by rw [← List.drop_drop, hd]; simp
 unfold frGet
 rw [hg]
 simp only
 rw [if_pos trivial, if_neg (by omega), if_neg (by omega), hd2, hd, List.take_left' (by rfl), List.take_left' (by rfl), if_pos (numLE_le4 _ (crcSum_lt b))]
 rfl
theorem frGet_nil : (frGet []).2.2 ≠ 0 := by simp [frGet, getS, getFrom]
theorem frScan_fit (n : Nat) : ∀ l : Bytes, l.length ≤ n → (∀ b ∈ (frScan l).1, b.length ≤ 1048576) ∧ (frScan l).1.length ≤ l.length := by
 induction n with
 | zero =>
   intro l hl
   have : l = [] := List.length_eq_zero_iff.1 (by omega)
   subst this
   rw [frScan_no (m := (frGet []).1) (n := (frGet []).2.1) (e := (frGet []).2.2) rfl frGet_nil]; simp
 | succ n ih =>
   intro l hl
   have hf := frGet_fit l
   obtain ⟨m, k, e, hx⟩ : ∃ m k e, frGet l = (m, k, e) := ⟨_, _, _, rfl⟩
   rw [hx] at hf
   simp only at hf
   rcases hf with ⟨rfl, h5, h6, h7, _⟩ | ⟨he, _⟩
   ·rw [frScan_ok hx]
    have := ih (l.drop k) (by simp; omega)
    simp only [List.length_drop] at this
    refine ⟨fun b hb => ?_, by simp only [List.length_cons]; omega⟩
    simp only [List.mem_cons] at hb
    rcases hb with rfl | hb
    ·exact h7
    ·exact this.1 b hb
   ·rw [frScan_no hx he]; simp
theorem sizeN_le {n : Nat} (h : n ≤ 1048576) : sizeN n ≤ 1048590 := by
 have := shortB_len10 n (by omega)
 unfold sizeN; omega
/-- an event that may be has short texts -/
theorem evB_short {e : Ev} (h : evOk e = true) : (evB e).length ≤ 8192 := by
 have hf := evOk_fit h
 have h64 := hf.over
 have d1 := dotB_len e.dot
 have d2 := stampB_len e.stamp
 have d3 := shortB_len10 e.over.length (by omega)
 have d4 := dotsB_len e.over
 obtain ⟨s1, s2, s3, s4⟩ := evOk_short h
 have t1 := textB_len (bl e.key.name) (by rw [bl_length]; omega)
 have t2 := textB_len (bl e.key.domain) (by rw [bl_length]; omega)
 have t3 := textB_len (bl e.key.path) (by rw [bl_length]; omega)
 have t4 := textB_len (bl e.ck.value) (by rw [bl_length]; omega)
 simp only [bl_length] at t1 t2 t3 t4
 unfold evB evHead evTail
 split
 ·rename_i h1
  obtain ⟨⟨f1, f2⟩, ⟨f3, f4⟩, f5, f6⟩ := hf.item h1
  have t5 := zigB_len e.ck.expiry (by omega) (by omega)
  have t6 := shortB_len10 e.ck.creation.toNat (by omega)
  have t7 := shortB_len10 e.ck.access.toNat (by omega)
  simp only [List.length_append, List.length_singleton]; omega
 ·simp only [List.length_append, List.length_singleton, List.length_nil]; omega
end Go.Proofs.YtohcmljigcdmbaaGreat
/- An event that came in as an argument: its value, and its dots in memory. Conditions: none. -/
namespace Go.Proofs.YtohcmljigcdmbaaGreat
open Go.ChangeShapes Go.WideShapes Go.ChangeAt Go.RowKit
section
variable {H : Type} {enc : TypeId × Value → H} {P : Program} {w : World} {base : Nat} {spare : Nat → Bool} {held : Bool}
theorem list19 {α : Type} {cs : List α} (h : cs.length = 19) : ∃ c0 c1 c2 c3 c4 c5 c6 c7 c8 c9 c10 c11 c12 c13 c14 c15 c16 c17 c18, cs = [c0, c1, c2, c3, c4, c5, c6, c7, c8, c9, c10, c11, c12, c13, c14, c15, c16, c17, c18] := by
 match cs, h with
 | [c0, c1, c2, c3, c4, c5, c6, c7, c8, c9, c10, c11, c12, c13, c14, c15, c16, c17, c18], _ => exact ⟨c0, c1, c2, c3, c4, c5, c6, c7, c8, c9, c10, c11, c12, c13, c14, c15, c16, c17, c18, rfl⟩
end
/-- what any event that comes in has: no text and no list too long for the machine, each number one of Go's -/
structure EvIn (w : World) (a : Option Addr) (cap : Nat) (e : Ev) : Prop where
 dots : DotsIn w a e.over
 over : e.over.length ≤ maxLen
 name : e.key.name.size ≤ maxLen
 domain : e.key.domain.size ≤ maxLen
 path : e.key.path.size ≤ maxLen
 value : e.ck.value.size ≤ maxLen
 nil : a = none → e.over = [] ∧ cap = 0
 old : ∀ A off, a = some ⟨A, off, none⟩ → e.over ≠ [] → A < w.heap.size
section
variable {H : Type} {enc : TypeId × Value → H} {w : World} {spare : Nat → Bool} {held : Bool}
theorem open_dots {fuel : Nat} {cs : List Value} {x : DataW H × List MemPlace} (h : DataW.trod enc Tryz.prog w 0 spare held fuel 32 cs = some x) :
 ∃ (a : Option Addr) (l : List Dot) (cap : Nat), cs = [.slice a l.length cap] ∧ DotsIn w a l ∧ l.length ≤ maxLen ∧ (a = none → l = [] ∧ cap = 0) := by
 rcases Deep.open_slice Tryz.underlying32 h with ⟨rfl, _⟩ | ⟨a, len, cap, m, n, D, Pl, rfl, _, hl, hm, hmm, _, hel⟩
 ·exact ⟨none, [], 0, rfl, Or.inl rfl, Nat.zero_le _, fun _ => ⟨rfl, rfl⟩⟩
 have hlm : len ≤ m := by rw [hmm]; split <;> omega
 have hc3 : Tryz.prog.cellsOf 25 = 3 := by kernel_rfl
 rw [hc3] at hel
 obtain ⟨l, hll, hr⟩ := list_of (R := fun i (d : Dot) => ∃ b off, a.add (i * 3) = ⟨b, off, none⟩ ∧ w.cell? ⟨b, off, none⟩ = some (.int .i64 d.a.dev) ∧ w.cell? ⟨b, off + 1, none⟩ = some (.int .i64 d.a.inc) ∧ w.cell? ⟨b, off + 2, none⟩ = some (.int .i64 d.seq)) len (fun i hi => by
  obtain ⟨cs', hcs, ht⟩ := hel i (by omega)
  obtain ⟨c0, c1, c2, b, off, rfl, hab, h0, h1, h2⟩ := cells3 hcs
  obtain ⟨_, _, hA⟩ := trod_field Tryz.underlying25 ht 0 _ rfl 2 (by kernel_rfl) [c0, c1] rfl
  obtain ⟨_, _, hS⟩ := trod_field Tryz.underlying25 ht 1 _ rfl 1 (by kernel_rfl) [c2] rfl
  obtain ⟨_, _, hD⟩ := trod_field Tryz.underlying23 hA 0 _ rfl 1 (by kernel_rfl) [c0] rfl
  obtain ⟨_, _, hI⟩ := trod_field Tryz.underlying23 hA 1 _ rfl 1 (by kernel_rfl) [c1] rfl
  obtain ⟨x0, e0, _, w0⟩ := DataW.trod_int Tryz.underlying3 hD
  obtain ⟨x1, e1, _, w1⟩ := DataW.trod_int Tryz.underlying3 hI
  obtain ⟨x2, e2, _, w2⟩ := DataW.trod_int Tryz.underlying3 hS
  simp only [List.cons.injEq, and_true] at e0 e1 e2
  subst e0 e1 e2
  exact ⟨⟨⟨x0, x1⟩, x2⟩, b, off, hab, h0, h1, h2⟩)
 subst hll
 refine ⟨some a, l, cap, rfl, ?_, by omega, fun h => by cases h⟩
 rcases Nat.eq_zero_or_pos l.length with h0 | h0
 ·exact Or.inl (List.length_eq_zero_iff.1 h0)
 ·right
  obtain ⟨b, off, spot⟩ := a
  obtain ⟨b', off', hab, _⟩ := hr 0 h0
  have hs : spot = none := by simp [Addr.add] at hab; exact hab.2.2
  subst hs
  refine ⟨b, off, rfl, ⟨fun i hi => ?_, fun i hi => ?_, fun i hi => ?_⟩⟩ <;>
  ·obtain ⟨b', off', hab, g0, g1, g2⟩ := hr i hi
   rw [Go.WideShapes.add_plain] at hab
   simp only [Addr.mk.injEq, and_true] at hab
   obtain ⟨rfl, rfl⟩ := hab
   assumption
theorem open_ev {r : Reach} {b0 : Nat} {v : Value} {d : DataW H} {p : List MemPlace} (hv : Value.okWide Tryz.prog w r b0 34 v) (h : DataW.Trod enc Tryz.prog w 0 spare held 34 v d p) :
 ∃ (e : Ev) (a : Option Addr) (cap : Nat), v = evVal e a cap ∧ EvIn w a cap e := by
 obtain ⟨⟨cs⟩, rfl, hsz⟩ := okWide_struct Tryz.underlying34 hv
 have hc : Tryz.prog.cellsOf 34 = 19 := by kernel_rfl
 rw [hc] at hsz
 obtain ⟨c0, c1, c2, c3, c4, c5, c6, c7, c8, c9, c10, c11, c12, c13, c14, c15, c16, c17, c18, rfl⟩ := list19 hsz
 obtain ⟨fuel, hf⟩ := h
 simp only [Value.cells] at hf
 obtain ⟨_, _, hD⟩ := trod_field Tryz.underlying34 hf 0 _ rfl 3 (by kernel_rfl) [c0, c1, c2] rfl
 obtain ⟨_, _, hS⟩ := trod_field Tryz.underlying34 hf 1 _ rfl 3 (by kernel_rfl) [c3, c4, c5] rfl
 obtain ⟨_, _, hK⟩ := trod_field Tryz.underlying34 hf 2 _ rfl 1 (by kernel_rfl) [c6] rfl
 obtain ⟨_, _, hY⟩ := trod_field Tryz.underlying34 hf 3 _ rfl 3 (by kernel_rfl) [c7, c8, c9] rfl
 obtain ⟨_, _, hC⟩ := trod_field Tryz.underlying34 hf 4 _ rfl 8 (by kernel_rfl) [c10, c11, c12, c13, c14, c15, c16, c17] rfl
 obtain ⟨_, _, hO⟩ := trod_field Tryz.underlying34 hf 5 _ rfl 1 (by kernel_rfl) [c18] rfl
 obtain ⟨_, _, hA⟩ := trod_field Tryz.underlying25 hD 0 _ rfl 2 (by kernel_rfl) [c0, c1] rfl
 obtain ⟨_, _, h0⟩ := trod_field Tryz.underlying23 hA 0 _ rfl 1 (by kernel_rfl) [c0] rfl
 obtain ⟨x0, e0, _, w0⟩ := DataW.trod_int Tryz.underlying3 h0
 obtain ⟨_, _, h1⟩ := trod_field Tryz.underlying23 hA 1 _ rfl 1 (by kernel_rfl) [c1] rfl
 obtain ⟨x1, e1, _, w1⟩ := DataW.trod_int Tryz.underlying3 h1
 obtain ⟨_, _, h2⟩ := trod_field Tryz.underlying25 hD 1 _ rfl 1 (by kernel_rfl) [c2] rfl
 obtain ⟨x2, e2, _, w2⟩ := DataW.trod_int Tryz.underlying3 h2
 obtain ⟨_, _, h3⟩ := trod_field Tryz.underlying27 hS 0 _ rfl 1 (by kernel_rfl) [c3] rfl
 obtain ⟨x3, e3, _, w3⟩ := DataW.trod_int Tryz.underlying3 h3
 obtain ⟨_, _, h4⟩ := trod_field Tryz.underlying27 hS 1 _ rfl 1 (by kernel_rfl) [c4] rfl
 obtain ⟨x4, e4, _, w4⟩ := DataW.trod_int Tryz.underlying3 h4
 obtain ⟨_, _, h5⟩ := trod_field Tryz.underlying27 hS 2 _ rfl 1 (by kernel_rfl) [c5] rfl
 obtain ⟨x5, e5, _, w5⟩ := DataW.trod_int Tryz.underlying3 h5
 obtain ⟨x6, e6, _, w6⟩ := DataW.trod_int Tryz.underlying3 hK
 obtain ⟨_, _, h7⟩ := trod_field Tryz.underlying29 hY 0 _ rfl 1 (by kernel_rfl) [c7] rfl
 obtain ⟨x7, e7, _, w7⟩ := DataW.trod_string Tryz.underlying9 h7
 obtain ⟨_, _, h8⟩ := trod_field Tryz.underlying29 hY 1 _ rfl 1 (by kernel_rfl) [c8] rfl
 obtain ⟨x8, e8, _, w8⟩ := DataW.trod_string Tryz.underlying9 h8
 obtain ⟨_, _, h9⟩ := trod_field Tryz.underlying29 hY 2 _ rfl 1 (by kernel_rfl) [c9] rfl
 obtain ⟨x9, e9, _, w9⟩ := DataW.trod_string Tryz.underlying9 h9
 obtain ⟨_, _, h10⟩ := trod_field Tryz.underlying31 hC 0 _ rfl 1 (by kernel_rfl) [c10] rfl
 obtain ⟨x10, e10, _, w10⟩ := DataW.trod_string Tryz.underlying9 h10
 obtain ⟨_, _, h11⟩ := trod_field Tryz.underlying31 hC 1 _ rfl 1 (by kernel_rfl) [c11] rfl
 obtain ⟨x11, e11, _⟩ := DataW.trod_bool Tryz.underlying4 h11
 obtain ⟨_, _, h12⟩ := trod_field Tryz.underlying31 hC 2 _ rfl 1 (by kernel_rfl) [c12] rfl
 obtain ⟨x12, e12, _⟩ := DataW.trod_bool Tryz.underlying4 h12
 obtain ⟨_, _, h13⟩ := trod_field Tryz.underlying31 hC 3 _ rfl 1 (by kernel_rfl) [c13] rfl
 obtain ⟨x13, e13, _⟩ := DataW.trod_bool Tryz.underlying4 h13
 obtain ⟨_, _, h14⟩ := trod_field Tryz.underlying31 hC 4 _ rfl 1 (by kernel_rfl) [c14] rfl
 obtain ⟨x14, e14, _⟩ := DataW.trod_bool Tryz.underlying4 h14
 obtain ⟨_, _, h15⟩ := trod_field Tryz.underlying31 hC 5 _ rfl 1 (by kernel_rfl) [c15] rfl
 obtain ⟨x15, e15, _, w15⟩ := DataW.trod_int Tryz.underlying3 h15
 obtain ⟨_, _, h16⟩ := trod_field Tryz.underlying31 hC 6 _ rfl 1 (by kernel_rfl) [c16] rfl
 obtain ⟨x16, e16, _, w16⟩ := DataW.trod_int Tryz.underlying3 h16
 obtain ⟨_, _, h17⟩ := trod_field Tryz.underlying31 hC 7 _ rfl 1 (by kernel_rfl) [c17] rfl
 obtain ⟨x17, e17, _, w17⟩ := DataW.trod_int Tryz.underlying3 h17
 obtain ⟨a, l, cap, e18, hdots, hlen, hnil⟩ := open_dots hO
 simp only [List.cons.injEq, and_true] at e0
 subst e0
 simp only [List.cons.injEq, and_true] at e1
 subst e1
 simp only [List.cons.injEq, and_true] at e2
 subst e2
 simp only [List.cons.injEq, and_true] at e3
 subst e3
 simp only [List.cons.injEq, and_true] at e4
 subst e4
 simp only [List.cons.injEq, and_true] at e5
 subst e5
 simp only [List.cons.injEq, and_true] at e6
 subst e6
 simp only [List.cons.injEq, and_true] at e7
 subst e7
 simp only [List.cons.injEq, and_true] at e8
 subst e8
 simp only [List.cons.injEq, and_true] at e9
 subst e9
 simp only [List.cons.injEq, and_true] at e10
 subst e10
 simp only [List.cons.injEq, and_true] at e11
 subst e11
 simp only [List.cons.injEq, and_true] at e12
 subst e12
 simp only [List.cons.injEq, and_true] at e13
 subst e13
 simp only [List.cons.injEq, and_true] at e14
 subst e14
 simp only [List.cons.injEq, and_true] at e15
 subst e15
 simp only [List.cons.injEq, and_true] at e16
 subst e16
 simp only [List.cons.injEq, and_true] at e17
 subst e17
 simp only [List.cons.injEq, and_true] at e18
 subst e18
 refine ⟨⟨⟨⟨x0, x1⟩, x2⟩, ⟨x3, x4, x5⟩, x6, ⟨x7, x8, x9⟩, ⟨x10, x11, x12, x13, x14, x15, x16, x17⟩, l⟩, a, cap, rfl, ⟨hdots, hlen, w7, w8, w9, w10, hnil, ?_⟩⟩
 intro A off ha hne
 rcases hdots with h | ⟨A', off', ha', hd⟩
 ·exact absurd h hne
 ·rw [ha] at ha'
  cases ha'
  exact World.block_lt_of_cell? w _ (hd.dev 0 (List.length_pos_iff.2 hne))
end
end Go.Proofs.YtohcmljigcdmbaaGreat
/- Bytes, marks, events and lists of events that came in as arguments. Conditions: none. -/
namespace Go.Proofs.YtohcmljigcdmbaaGreat
open Go.ChangeShapes Go.WideShapes Go.ChangeAt Go.RowKit
section
variable {H : Type} {enc : TypeId × Value → H} {w : World} {base : Nat} {spare : Nat → Bool} {held : Bool}
end
section
variable {H : Type} {enc : TypeId × Value → H} {w : World} {base : Nat} {spare : Nat → Bool} {held : Bool}
open Go.ChangeShapes Go.WideShapes Go.ChangeAt
end
end Go.Proofs.YtohcmljigcdmbaaGreat
