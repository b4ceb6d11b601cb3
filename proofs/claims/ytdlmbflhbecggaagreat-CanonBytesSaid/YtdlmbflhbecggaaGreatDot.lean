/- What '==' gives on the program's structs. Conditions: none. -/
import Derived.Test.YtdlmbflhbecggaaGreatChecked
import Derived.Test.YtdlmbflhbecggaaGreatKit
set_option linter.unusedSimpArgs false
set_option linter.unusedVariables false
set_option linter.unnecessarySimpa false
set_option maxHeartbeats 16000000
set_option maxRecDepth 100000
namespace Go.Proofs.YtdlmbflhbecggaaGreat
open Go.RowKit
theorem jv {P : Program} {t : TypeId} {fs : Array Field} (h : P.underlying t = some (.struct fs)) : P.fieldsOf t = fs := by
 simp [Program.fieldsOf, h]
theorem kJ : Tryz.prog.eqGuardType Tryz.prog.depth 54 = false := by kernel_rfl
theorem kV : Tryz.prog.eqGuardType Tryz.prog.depth 56 = false := by kernel_rfl
theorem Dk : Tryz.prog.eqGuardType Tryz.prog.depth 58 = false := by kernel_rfl
theorem yX : Tryz.prog.eqGuardType Tryz.prog.depth 60 = false := by kernel_rfl
theorem Aw : Tryz.prog.eqGuardType Tryz.prog.depth 62 = false := by kernel_rfl
theorem wJ : Tryz.prog.eqGuardType Tryz.prog.depth 175 = false := by kernel_rfl
theorem wu (a b : Actor) : a = b ↔ a.dev = b.dev ∧ a.inc = b.inc := by cases a; cases b; simp
theorem Ot (a b : Dot) : a = b ↔ a.a.dev = b.a.dev ∧ a.a.inc = b.a.inc ∧ a.seq = b.seq := by
 obtain ⟨⟨_, _⟩, _⟩ := a; obtain ⟨⟨_, _⟩, _⟩ := b; simp [and_assoc]
theorem Jl (a b : Stamp) : a = b ↔ a.wall = b.wall ∧ a.count = b.count ∧ a.dev = b.dev := by cases a; cases b; simp
theorem yg {s t : ByteArray} : s.toList = t.toList ↔ s = t := by
 rw [ByteArray.toList_eq, ByteArray.toList_eq]; exact ⟨mY, fun h => by rw [h]⟩
theorem IQ (a b : Key) : a = b ↔ a.name.toList = b.name.toList ∧ a.domain.toList = b.domain.toList ∧ a.path.toList = b.path.toList := by cases a; cases b; simp [yg]
theorem Nj (a b : Ck) : a = b ↔ a.value.toList = b.value.toList ∧ a.hostOnly = b.hostOnly ∧ a.secure = b.secure ∧ a.httpOnly = b.httpOnly ∧ a.persistent = b.persistent ∧ a.expiry = b.expiry ∧ a.creation = b.creation ∧ a.access = b.access := by cases a; cases b; simp [yg]
theorem qX (W : World) (d : Nat) (a b : Actor) : (Op.equalIn (d + 2) 54 (.agg #[.int .i64 a.dev, .int .i64 a.inc]) (.agg #[.int .i64 b.dev, .int .i64 b.inc])).run Tryz.prog W = .ok (decide (a = b)) W := by
 rw [run_equalIn_agg W (d + 1) 54 _ _ (by kernel_rfl) (by kernel_rfl), jv Tryz.underlying54]
 simp only [Op.eqFields]
 go_simp
 simp only [wu]
 repeat' split
 all_goals simp_all
theorem z131 {p : Prop} (h : p := by
 simp only [Op.eqFields]
 have h0 := qX W d a.a b.a
 simp only [wu] at h0
 go_simp
 simp only [Ot]
 repeat' split
 all_goals simp_all) : p := h
theorem BP (W : World) (d : Nat) (a b : Dot) : (Op.equalIn (d + 3) 56 (.agg #[.int .i64 a.a.dev, .int .i64 a.a.inc, .int .i64 a.seq]) (.agg #[.int .i64 b.a.dev, .int .i64 b.a.inc, .int .i64 b.seq])).run Tryz.prog W = .ok (decide (a = b)) W := by
 rw [run_equalIn_agg W (d + 2) 56 _ _ (by kernel_rfl) (by kernel_rfl), jv Tryz.underlying56]
 exact z131
theorem Oq (W : World) (d : Nat) (a b : Stamp) : (Op.equalIn (d + 2) 58 (.agg #[.int .i64 a.wall, .int .i64 a.count, .int .i64 a.dev]) (.agg #[.int .i64 b.wall, .int .i64 b.count, .int .i64 b.dev])).run Tryz.prog W = .ok (decide (a = b)) W := by
 rw [run_equalIn_agg W (d + 1) 58 _ _ (by kernel_rfl) (by kernel_rfl), jv Tryz.underlying58]
 simp only [Op.eqFields]
 go_simp
 simp only [Jl]
 repeat' split
 all_goals simp_all
theorem OZ (W : World) (d : Nat) (a b : Key) : (Op.equalIn (d + 2) 60 (.agg #[.string a.name, .string a.domain, .string a.path]) (.agg #[.string b.name, .string b.domain, .string b.path])).run Tryz.prog W = .ok (decide (a = b)) W := by
 rw [run_equalIn_agg W (d + 1) 60 _ _ (by kernel_rfl) (by kernel_rfl), jv Tryz.underlying60]
 simp only [Op.eqFields]
 go_simp
 simp only [IQ]
 repeat' split
 all_goals simp_all
theorem Tm (W : World) (d : Nat) (a b : Ck) : (Op.equalIn (d + 2) 62 (.agg #[.string a.value, .bool a.hostOnly, .bool a.secure, .bool a.httpOnly, .bool a.persistent, .int .i64 a.expiry, .int .i64 a.creation, .int .i64 a.access]) (.agg #[.string b.value, .bool b.hostOnly, .bool b.secure, .bool b.httpOnly, .bool b.persistent, .int .i64 b.expiry, .int .i64 b.creation, .int .i64 b.access])).run Tryz.prog W = .ok (decide (a = b)) W := by
 rw [run_equalIn_agg W (d + 1) 62 _ _ (by kernel_rfl) (by kernel_rfl), jv Tryz.underlying62]
 simp only [Op.eqFields]
 go_simp
 simp only [Nj]
 repeat' split
 all_goals simp_all
theorem Nh (W : World) (d : Nat) (k l : Key) (a b : Ck) : (Op.equalIn (d + 3) 175 (.agg #[.string k.name, .string k.domain, .string k.path, .string a.value, .bool a.hostOnly, .bool a.secure, .bool a.httpOnly, .bool a.persistent, .int .i64 a.expiry, .int .i64 a.creation, .int .i64 a.access]) (.agg #[.string l.name, .string l.domain, .string l.path, .string b.value, .bool b.hostOnly, .bool b.secure, .bool b.httpOnly, .bool b.persistent, .int .i64 b.expiry, .int .i64 b.creation, .int .i64 b.access])).run Tryz.prog W = .ok (decide (k = l) && decide (a = b)) W := by
 rw [run_equalIn_agg W (d + 2) 175 _ _ (by kernel_rfl) (by kernel_rfl), jv Tryz.underlying175]
 simp only [Op.eqFields]
 go_simp
 simp only [IQ, Nj]
 repeat' split
 all_goals simp_all
theorem J4 (a : Int) (w : World) :
 Calls Tryz.prog 179 #[.int .i64 a] w fun e w' => e = .returned (.bool false) ∧ w = w' := by
 go_enter Tryz.func179, Tryz.ntmps179
 go_wp2
 go_ret
 exact ⟨aB (by simp), rfl⟩
theorem kD (a b : Int) (w : World) :
 Calls Tryz.prog 150 #[.int .i64 a, .int .i64 b] w fun e w' => e = .returned (.int .i64 (lD a b)) ∧ w = w' := by
 go_enter Tryz.func150, Tryz.ntmps150
 go_wp2_with (go_at_call 179; refine (J4 _ _).mono ?_; rintro e w1 ⟨rfl, rfl⟩)
 all_goals
  go_ret
  exact ⟨dR (by unfold lD; split <;> (try split) <;> omega), rfl⟩
theorem uX (a b : Int) (A : Nat) (w : World) (h0 : w.cell? ⟨A, 0, none⟩ = some (.int .i64 a)) (h1 : w.cell? ⟨A, 1, none⟩ = some (.int .i64 b)) :
 Calls Tryz.prog 149 #[.slice (some ⟨A, 0, none⟩) 2 2] w fun e w' => e = .returned (.int .i64 (orI a b)) ∧ w = w' := by
 go_enter Tryz.func149, Tryz.ntmps149
 go_wp2
 go_rounds 3
 all_goals
  go_ret
  exact ⟨dR (by unfold orI; simp_all), rfl⟩
theorem KW (a : Actor) (w : World) :
 Calls Tryz.prog 116 #[.agg #[.int .i64 a.dev, .int .i64 a.inc]] w fun e w' => e = .returned (.bool (iW a)) ∧ Below w.heap.size w w' := by
 go_enter Tryz.func116, Tryz.ntmps116
 go_wp2
 all_goals
  go_ret
  exact ⟨aB (by unfold iW; rw [Bool.eq_iff_iff]; simp <;> omega), by go_grown⟩
theorem ik (d : Dot) (w : World) :
 Calls Tryz.prog 65 #[.agg #[.int .i64 d.a.dev, .int .i64 d.a.inc, .int .i64 d.seq]] w fun e w' => e = .returned (.bool (bu d)) ∧ Below w.heap.size w w' := by
 have HD : Hid (bu d = (iW d.a && (decide (1 ≤ d.seq) && decide (d.seq ≤ 4294967296)))) := rfl
 go_enter Tryz.func65, Tryz.ntmps65
 go_wp2_with (go_at_call 116; refine (KW _ _).mono ?_; rintro e w1 ⟨rfl, hb⟩; obtain ⟨hc, hf⟩ := O0 hb)
 all_goals
  go_ret
  exact ⟨aB (by rw [HD.out]; simp [*] <;> omega), below2 ((Below.refl _ _).alloc (Nat.le_refl _) _) hb⟩
theorem GI (a : Actor) (w : World) :
 Calls Tryz.prog 126 #[.agg #[.int .i64 a.dev, .int .i64 a.inc]] w fun e w' => e = .returned (.bool (iW a)) ∧ Below w.heap.size w w' := by
 go_enter Tryz.func126, Tryz.ntmps126
 go_wp2
 all_goals
  go_ret
  exact ⟨aB (by unfold iW; rw [Bool.eq_iff_iff]; simp <;> omega), by go_grown⟩
theorem nS (d : Dot) (w : World) :
 Calls Tryz.prog 81 #[.agg #[.int .i64 d.a.dev, .int .i64 d.a.inc, .int .i64 d.seq]] w fun e w' => e = .returned (.bool (bu d)) ∧ Below w.heap.size w w' := by
 have HD : Hid (bu d = (iW d.a && (decide (1 ≤ d.seq) && decide (d.seq ≤ 4294967296)))) := rfl
 go_enter Tryz.func81, Tryz.ntmps81
 go_wp2_with (go_at_call 126; refine (GI _ _).mono ?_; rintro e w1 ⟨rfl, hb⟩; obtain ⟨hc, hf⟩ := O0 hb)
 all_goals
  go_ret
  exact ⟨aB (by rw [HD.out]; simp [*] <;> omega), below2 ((Below.refl _ _).alloc (Nat.le_refl _) _) hb⟩
theorem uH (a b : Actor) (w : World) :
 Calls Tryz.prog 109 #[.agg #[.int .i64 a.dev, .int .i64 a.inc], .agg #[.int .i64 b.dev, .int .i64 b.inc]] w fun e w' => e = .returned (.int .i64 (ed a b)) ∧ Below w.heap.size w w' := by
 go_enter Tryz.func109, Tryz.ntmps109
 go_wp2
 go_region_held3 (fun w' => w'.cell? ⟨w.heap.size, 0, none⟩ = some (.int .i64 a.dev) ∧ w'.cell? ⟨w.heap.size, 1, none⟩ = some (.int .i64 a.inc) ∧ w'.cell? ⟨w.heap.size+1, 0, none⟩ = some (.int .i64 b.dev) ∧ w'.cell? ⟨w.heap.size+1, 1, none⟩ = some (.int .i64 b.inc)) (go_keep)
  (first
   | (go_at_call 150; refine (kD _ _ _).mono ?_; rintro e w1 ⟨rfl, rfl⟩)
   | (go_at_call 149; go_call uX (lD a.dev b.dev) (lD a.inc b.inc) as e w1 ⟨rfl, rfl⟩))
 go_wp2
 go_ret
 exact ⟨rfl, by go_grown⟩
theorem JF (a b : Dot) (w : World) :
 Calls Tryz.prog 131 #[.agg #[.int .i64 a.a.dev, .int .i64 a.a.inc, .int .i64 a.seq], .agg #[.int .i64 b.a.dev, .int .i64 b.a.inc, .int .i64 b.seq]] w fun e w' => e = .returned (.int .i64 (mW a b)) ∧ Below w.heap.size w w' := by
 go_enter Tryz.func131, Tryz.ntmps131
 go_wp2
 go_region_held3 (fun w' => w'.cell? ⟨w.heap.size, 0, none⟩ = some (.int .i64 a.a.dev) ∧ w'.cell? ⟨w.heap.size, 1, none⟩ = some (.int .i64 a.a.inc) ∧ w'.cell? ⟨w.heap.size, 2, none⟩ = some (.int .i64 a.seq) ∧ w'.cell? ⟨w.heap.size+1, 0, none⟩ = some (.int .i64 b.a.dev) ∧ w'.cell? ⟨w.heap.size+1, 1, none⟩ = some (.int .i64 b.a.inc) ∧ w'.cell? ⟨w.heap.size+1, 2, none⟩ = some (.int .i64 b.seq)) (first | (refine ⟨?_, ?_, ?_, ?_, ?_, ?_⟩ <;> ((with_reducible refine kept hb ?_); simp [*]; done)) | go_keep)
  (first
   | (go_at_call 150; refine (kD _ _ _).mono ?_; rintro e w1 ⟨rfl, rfl⟩)
   | (go_at_call 109; refine (uH a.a b.a _).mono ?_; rintro e w1 ⟨rfl, hb⟩)
   | (go_at_call 149; go_call uX (ed a.a b.a) (lD a.seq b.seq) as e w2 ⟨rfl, rfl⟩))
 go_wp2
 go_ret
 refine ⟨rfl, ?_⟩
 have h0 : Below w.heap.size w ((w.alloc (Obj.cells #[.int .i64 a.a.dev, .int .i64 a.a.inc, .int .i64 a.seq] 56)).alloc (Obj.cells #[.int .i64 b.a.dev, .int .i64 b.a.inc, .int .i64 b.seq] 56)).drew := by go_grown
 exact ((h0.trans (hb.mono h0.size)).alloc (by have := (below2 h0 hb).size; omega) _)
theorem zl (a b : Dot) (w : World) :
 Calls Tryz.prog 117 #[.agg #[.int .i64 a.a.dev, .int .i64 a.a.inc, .int .i64 a.seq], .agg #[.int .i64 b.a.dev, .int .i64 b.a.inc, .int .i64 b.seq]] w fun e w' => e = .returned (.bool (cZ a b)) ∧ Below w.heap.size w w' := by
 have HD := Lib.hid (BU a b)
 go_enter Tryz.func117, Tryz.ntmps117
 go_wp2_with (go_at_call 131; refine (JF a b _).mono ?_; rintro e w1 ⟨rfl, hb⟩)
 go_ret
 exact ⟨aB (by rw [← HD.out]), below2 (by go_grown) hb⟩
theorem yQ (a b : Actor) (w : World) :
 Calls Tryz.prog 119 #[.agg #[.int .i64 a.dev, .int .i64 a.inc], .agg #[.int .i64 b.dev, .int .i64 b.inc]] w fun e w' => e = .returned (.bool (bG a b)) ∧ Below w.heap.size w w' := by
 go_enter Tryz.func119, Tryz.ntmps119
 go_wp2
 all_goals
  go_ret
  exact ⟨aB (by unfold bG; rw [Bool.eq_iff_iff]; simp; (first | omega | (simp only [beq_iff_eq, beq_eq_false_iff_ne, ne_eq, bne_iff_ne, bne_eq_false_iff_eq, decide_eq_true_eq, decide_eq_false_iff_not, Bool.not_eq_eq_eq_not, Bool.not_true, Bool.not_false] at *; omega))), by go_grown⟩
theorem uU (a b : Dot) (w : World) :
 Calls Tryz.prog 79 #[.agg #[.int .i64 a.a.dev, .int .i64 a.a.inc, .int .i64 a.seq], .agg #[.int .i64 b.a.dev, .int .i64 b.a.inc, .int .i64 b.seq]] w fun e w' => e = .returned (.bool (cZ a b)) ∧ Below w.heap.size w w' := by
 have hE := fun (W : World) => qX W 9998 a.a b.a
 have hm := kJ
 by_cases hab : a.a = b.a
 ·have hY : Hid (cZ a b = decide (a.seq < b.seq)) := by unfold Hid cZ bG; rw [hab]; simp
  rw [decide_eq_true hab] at hE
  clear hab
  go_enter Tryz.func79, Tryz.ntmps79
  go_wp2
  go_ret
  exact ⟨aB hY.out.symm, by go_grown⟩
 ·have hY : Hid (cZ a b = bG a.a b.a) := by
   unfold Hid cZ
   rw [wu] at hab
   have : (decide (a.a.dev = b.a.dev) && decide (a.a.inc = b.a.inc)) = false := by simpa using hab
   rw [this]; simp
  rw [decide_eq_false hab] at hE
  clear hab
  go_enter Tryz.func79, Tryz.ntmps79
  go_wp2_with (go_at_call 119; refine (yQ a.a b.a _).mono ?_; rintro e w1 ⟨rfl, hb⟩)
  go_ret
  exact ⟨aB hY.out.symm, below2 (by go_grown) hb⟩
theorem xO (n m : Int) (w : World) :
 Calls Tryz.prog 152 #[.int .i64 n, .int .i64 m] w fun e w' => e = .returned (.bool (decide (0 ≤ n) && decide (n ≤ m))) ∧ w = w' := by
 go_enter Tryz.func152, Tryz.ntmps152
 go_wp2
 all_goals
  go_ret
  exact ⟨aB (by rw [Bool.eq_iff_iff]; simp <;> omega), rfl⟩
theorem qI (s : Stamp) (w : World) :
 Calls Tryz.prog 112 #[.agg #[.int .i64 s.wall, .int .i64 s.count, .int .i64 s.dev]] w fun e w' => e = .returned (.bool (gV s)) ∧ Below w.heap.size w w' := by
 go_enter Tryz.func112, Tryz.ntmps112
 go_wp2_with (go_at_call 152; refine (xO _ _ _).mono ?_; rintro e w1 ⟨rfl, rfl⟩)
 all_goals
  go_ret
  exact ⟨aB (by unfold gV; rw [Bool.eq_iff_iff]; simp [*] <;> omega), by go_grown⟩
theorem xJ (s : Stamp) (w : World) :
 Calls Tryz.prog 123 #[.agg #[.int .i64 s.wall, .int .i64 s.count, .int .i64 s.dev]] w fun e w' => e = .returned (.bool (gV s)) ∧ Below w.heap.size w w' := by
 go_enter Tryz.func123, Tryz.ntmps123
 go_wp2
 all_goals
  go_ret
  exact ⟨aB (by unfold gV; rw [Bool.eq_iff_iff]; simp <;> omega), by go_grown⟩
/-- dots in memory, three cells each -/
structure DotsAt (w : World) (A off : Nat) (l : List Dot) : Prop where
 dev : ∀ i (h : i < l.length), w.cell? ⟨A, off + i * 3, none⟩ = some (.int .i64 l[i].a.dev)
 inc : ∀ i (h : i < l.length), w.cell? ⟨A, off + i * 3 + 1, none⟩ = some (.int .i64 l[i].a.inc)
 seq : ∀ i (h : i < l.length), w.cell? ⟨A, off + i * 3 + 2, none⟩ = some (.int .i64 l[i].seq)
theorem DotsAt.kept {w w' : World} {A off : Nat} {l : List Dot} (h : DotsAt w A off l) (hb : Below w.heap.size w w') : DotsAt w' A off l :=
 ⟨fun i hi => YtdlmbflhbecggaaGreat.kept hb (h.dev i hi), fun i hi => YtdlmbflhbecggaaGreat.kept hb (h.inc i hi), fun i hi => YtdlmbflhbecggaaGreat.kept hb (h.seq i hi)⟩
/-- a slice of dots -/
def DotsIn (w : World) (a : Option Addr) (l : List Dot) : Prop := l = [] ∨ ∃ A off, a = some ⟨A, off, none⟩ ∧ DotsAt w A off l
theorem DotsIn.kept {w w' : World} {a : Option Addr} {l : List Dot} (h : DotsIn w a l) (hb : Below w.heap.size w w') : DotsIn w' a l := by
 rcases h with h | ⟨A, off, h1, h2⟩
 ·exact Or.inl h
 ·exact Or.inr ⟨A, off, h1, h2.kept hb⟩
def jS (d : Dot) (p : Option Dot) (x : Dot) : Bool := bu x && ((match p with | none => true | some y => cZ y x) && !(decide (x.a = d.a) && decide (d.seq ≤ x.seq)))
def di (d : Dot) : Option Dot → List Dot → Bool
 | _, [] => true
 | p, x :: r => jS d p x && di d (some x) r
def overOk (d : Dot) (l : List Dot) : Bool := decide (l.length ≤ 64) && di d none l
/-- the dot ahead of place k -/
def bC (l : List Dot) : Nat → Option Dot
 | 0 => none
 | k + 1 => l[k]?
theorem rP (d : Dot) (l : List Dot) (k : Nat) (h : k < l.length) : di d (bC l k) (l.drop k) = (jS d (bC l k) l[k] && di d (bC l (k + 1)) (l.drop (k + 1))) := by
 rw [List.drop_eq_getElem_cons h, di]
 congr 1
 simp [bC, h]
theorem mf {B : Nat} {W0 wr W1 wi : World} (h : Below B W0 wr) (h1 : Below wr.heap.size wr W1) (h2 : Below W1.heap.size W1 wi) (hB : B ≤ W0.heap.size := by omega) : Below B W0 wi :=
 h.trans ((below2 h1 h2).mono (Nat.le_trans hB h.size))
theorem z49 {p : Prop} (h : p := by
 go_wp2
 go_ret
 exact ⟨aB HE.out.symm, by go_grown⟩) : p := h
theorem y9 {p q : Prop} (k : q) (h : PLift q → p := by
 intro kk
 go_big_quiet_step (fail)
 go_big_quiet_step (exact Calls.after (HR.out _))
 iterate 12 go_big_quiet_step (fail)
 go_big_quiet_step (exact Calls.after (HLT.out _))
 iterate 19 go_big_quiet_step (fail)
 refine wpQuiet_nil ?_
 exact kk.down) : p := h ⟨k⟩
theorem y63 {p q : Prop} (k : q) (h : PLift q → p := by
 intro kk
 refine aH (by kernel_rfl) (by kernel_rfl) (fun W2 hW2 => ?_)
 have a0 : ∀ i : After W2, i.w.cell? ⟨wr.heap.size, 0, none⟩ = some (.int .i64 x.a.dev) := fun i => i.cell (by rw [hW2.out]; exact x0)
 have a1 : ∀ i : After W2, i.w.cell? ⟨wr.heap.size, 1, none⟩ = some (.int .i64 x.a.inc) := fun i => i.cell (by rw [hW2.out]; exact x1)
 have a2 : ∀ i : After W2, i.w.cell? ⟨wr.heap.size, 2, none⟩ = some (.int .i64 x.seq) := fun i => i.cell (by rw [hW2.out]; exact x2)
 revert W2 hW2 a0 a1 a2
 exact kk.down) : p := h ⟨k⟩
theorem y2 {p q : Prop} (k : q) (h : PLift q → p := by
 intro kk
 refine y63 ?_
 intro W2 hW2 a0 a1 a2
 have b0 : ∀ i : After W2, i.w.cell? ⟨w.heap.size, 0, none⟩ = some (.int .i64 d.a.dev) := fun i => i.cell (by rw [hW2.out]; exact hw0)
 have b1 : ∀ i : After W2, i.w.cell? ⟨w.heap.size, 1, none⟩ = some (.int .i64 d.a.inc) := fun i => i.cell (by rw [hW2.out]; exact hw1)
 have b2 : ∀ i : After W2, i.w.cell? ⟨w.heap.size, 2, none⟩ = some (.int .i64 d.seq) := fun i => i.cell (by rw [hW2.out]; exact hw2)
 have b18 : ∀ i : After W2, i.w.cell? ⟨w.heap.size, 18, none⟩ = some (.slice (some ⟨A, off, none⟩) l.length cap) := fun i => i.cell (by rw [hW2.out]; exact xM)
 revert W2 hW2 a0 a1 a2 b0 b1 b2 b18
 exact kk.down) : p := h ⟨k⟩
theorem z17 {p : Prop} (h : p := by
 clear h4 hT2
 refine y2 ?_
 intro W2 hW2 a0 a1 a2 b0 b1 b2 b18
 skip
 refine y9 ?_
 rintro _ ⟨i, rfl⟩
 have hib := i.h
 clear a0 a1 a2 b0 b1 b2 b18
 skip
 generalize i.w = wi at hib ⊢
 rw [hW2.out] at hib
 go_wp2
 go_roundw
 case rel => exact ⟨k + 1, by omega, by go_num, HE.out, mf hbw hB1 hib⟩
 case measure => simp [intOf] <;> omega) : p := h
theorem y20 {p q : Prop} (k : q) (h : PLift q → p := by
 intro kk
 have g0 : ∀ i : After W2, i.w.cell? ⟨A, off + j * 3, none⟩ = some (.int .i64 y.a.dev) := fun i => i.cell (by rw [hW2.out]; exact f0)
 have g1 : ∀ i : After W2, i.w.cell? ⟨A, off + j * 3 + 1, none⟩ = some (.int .i64 y.a.inc) := fun i => i.cell (by rw [hW2.out]; exact f1)
 have g2 : ∀ i : After W2, i.w.cell? ⟨A, off + j * 3 + 2, none⟩ = some (.int .i64 y.seq) := fun i => i.cell (by rw [hW2.out]; exact f2)
 revert g0 g1 g2
 exact kk.down) : p := h ⟨k⟩
theorem z8 {p : Prop} (h : p := by
 refine y20 ?_
 intro g0 g1 g2
 refine y9 ?_
 rintro _ ⟨i, rfl⟩
 have hib := i.h
 clear a0 a1 a2 b0 b1 b2 b18
 clear g0 g1 g2 hww
 generalize i.w = wi at hib ⊢
 rw [hW2.out] at hib
 go_wp2
 go_roundw
 case rel => exact ⟨(j + 1) + 1, by omega, by go_num, HE.out, mf hbw hB1 hib⟩
 case measure => simp [intOf] <;> omega) : p := h
theorem z99 {p : Prop} (h : p := by
 generalize i.w = wi at hib ⊢
 rw [hW2.out] at hib
 go_wp2
 go_ret
 exact ⟨aB HE.out.symm, hb0.trans ((mf hbw hB1 hib).mono (by omega))⟩) : p := h
theorem z63 {p : Prop} (h : p := by
 clear h4 hT2
 refine y2 ?_
 intro W2 hW2 a0 a1 a2 b0 b1 b2 b18
 exact z8) : p := h
theorem y24 {p q : Prop} (k : q) (h : PLift q → p := by
 intro kk
 have hdk : decide ((0 : Int) < (j : Int) + 1) = true := by simp <;> omega
 have hww : IntKind.i64.wrap ((j : Int) + 1 - 1) = (j : Int) := by rw [show (j : Int) + 1 - 1 = j by omega]; exact IntWalk.i64_in _ (by omega)
 revert hdk hww
 exact kk.down) : p := h ⟨k⟩
theorem y19 {p q : Prop} (k : q) (h : PLift q → p := by
 intro kk
 have x0 : W1.cell? ⟨wr.heap.size, 0, none⟩ = some (.int .i64 x.a.dev) := by rw [hW1.out]; go_simp
 have x1 : W1.cell? ⟨wr.heap.size, 1, none⟩ = some (.int .i64 x.a.inc) := by rw [hW1.out]; go_simp
 have x2 : W1.cell? ⟨wr.heap.size, 2, none⟩ = some (.int .i64 x.seq) := by rw [hW1.out]; go_simp
 revert x0 x1 x2
 exact kk.down) : p := h ⟨k⟩
theorem y72 {p q : Prop} (k : q) (h : PLift q → p := by
 intro kk
 have J8 : ¬ 0 < k := by omega
 have hdk : decide (0 < k) = false := by simp; omega
 revert J8 hdk
 exact kk.down) : p := h ⟨k⟩
theorem JD (d : Dot) (v3 v4 v5 v6 v7 v8 v9 v10 v11 v12 v13 v14 v15 v16 v17 : Value) (A off cap : Nat) (l : List Dot) (w : World) (hd : DotsAt w A off l) (hl : l.length ≤ 1073741824) :
 Calls Tryz.prog 113 #[.agg #[.int .i64 d.a.dev, .int .i64 d.a.inc, .int .i64 d.seq, v3, v4, v5, v6, v7, v8, v9, v10, v11, v12, v13, v14, v15, v16, v17, .slice (some ⟨A, off, none⟩) l.length cap]] w fun e w' => e = .returned (.bool (overOk d l)) ∧ Below w.heap.size w w' := by
 by_cases h64 : l.length ≤ 64
 ·have HO : Hid (overOk d l = di d (bC l 0) (l.drop 0)) := by unfold Hid overOk; simp [h64, bC]
  go_enter Tryz.func113, Tryz.ntmps113
  go_upto_block 0 with fail
  refine aX (fun W0 hW0 => ?_)
  have hb0 : Below w.heap.size w W0 := by rw [hW0.out]; go_grown
  have hz0 : W0.heap.size = w.heap.size + 1 := by rw [hW0.out]; simp
  have c0 : W0.cell? ⟨w.heap.size, 0, none⟩ = some (.int .i64 d.a.dev) := by rw [hW0.out]; go_simp
  have c1 : W0.cell? ⟨w.heap.size, 1, none⟩ = some (.int .i64 d.a.inc) := by rw [hW0.out]; go_simp
  have c2 : W0.cell? ⟨w.heap.size, 2, none⟩ = some (.int .i64 d.seq) := by rw [hW0.out]; go_simp
  have c18 : W0.cell? ⟨w.heap.size, 18, none⟩ = some (.slice (some ⟨A, off, none⟩) l.length cap) := by rw [hW0.out]; go_simp
  have hd0 := hd.kept hb0
  clear hW0 hd
  go_wp2
  go_loopw [12] (fun i wr => ∃ k : Nat, k ≤ l.length ∧ i = .int .i64 k ∧ overOk d l = di d (bC l k) (l.drop k) ∧ Below (w.heap.size + 1) W0 wr) (fun i _ => l.length - (intOf i).toNat)
  case atStart => exact ⟨0, Nat.zero_le _, rfl, HO.out, Below.refl _ _⟩
  case round =>
   obtain ⟨k, hk, rfl, hpre, hbw⟩ := hrel
   have HP := Lib.hid hpre
   clear hpre
   have hbw' : Below W0.heap.size W0 wr := hbw.mono (by omega)
   by_cases hlt : k < l.length
   ·have hdr := hd0.kept hbw'
    have e0 := hdr.dev k hlt
    have e1 := hdr.inc k hlt
    have e2 := hdr.seq k hlt
    have hst := rP d l k hlt
    have HT : Hid (overOk d l = (jS d (bC l k) l[k] && di d (bC l (k + 1)) (l.drop (k + 1)))) := by rw [Hid, HP.out, hst]
    clear hst HP
    generalize l[k] = x at e0 e1 e2 HT
    have hw0 := kept hbw' c0
    have hw1 := kept hbw' c1
    have hw2 := kept hbw' c2
    have xM := kept hbw' c18
    go_wp2
    refine aX (fun W1 hW1 => ?_)
    have hB1 : Below wr.heap.size wr W1 := by rw [hW1.out]; go_grown
    refine y19 ?_
    intro x0 x1 x2
    replace hw0 := kept hB1 hw0
    replace hw1 := kept hB1 hw1
    replace hw2 := kept hB1 hw2
    replace xM := kept hB1 xM
    replace hdr := hdr.kept hB1
    clear hW1 e0 e1 e2 c0 c1 c2 c18
    have hR0 := fun (W : World) => ik x W
    have vG := fun (W : World) => qX W 9998 x.a d.a
    have hm := kJ
    cases h1 : bu x with
    | false =>
      have HE : Hid (overOk d l = false) := by rw [Hid, HT.out]; unfold jS; rw [h1]; simp
      rw [h1] at hR0
      have HR := Lib.hid hR0
      clear hR0 vG h1
      refine aH (by kernel_rfl) (by kernel_rfl) (fun W2 hW2 => ?_)
      have a0 : ∀ i : After W2, i.w.cell? ⟨wr.heap.size, 0, none⟩ = some (.int .i64 x.a.dev) := fun i => i.cell (by rw [hW2.out]; exact x0)
      have a1 : ∀ i : After W2, i.w.cell? ⟨wr.heap.size, 1, none⟩ = some (.int .i64 x.a.inc) := fun i => i.cell (by rw [hW2.out]; exact x1)
      have a2 : ∀ i : After W2, i.w.cell? ⟨wr.heap.size, 2, none⟩ = some (.int .i64 x.seq) := fun i => i.cell (by rw [hW2.out]; exact x2)
      have b0 : ∀ i : After W2, i.w.cell? ⟨w.heap.size, 0, none⟩ = some (.int .i64 d.a.dev) := fun i => i.cell (by rw [hW2.out]; exact hw0)
      have b1 : ∀ i : After W2, i.w.cell? ⟨w.heap.size, 1, none⟩ = some (.int .i64 d.a.inc) := fun i => i.cell (by rw [hW2.out]; exact hw1)
      have b2 : ∀ i : After W2, i.w.cell? ⟨w.heap.size, 2, none⟩ = some (.int .i64 d.seq) := fun i => i.cell (by rw [hW2.out]; exact hw2)
      have b18 : ∀ i : After W2, i.w.cell? ⟨w.heap.size, 18, none⟩ = some (.slice (some ⟨A, off, none⟩) l.length cap) := fun i => i.cell (by rw [hW2.out]; exact xM)
      skip
      go_big_quiet_step (fail)
      go_big_quiet_step (exact Calls.after (HR.out _))
      iterate 12 go_big_quiet_step (fail)
      go_big_quiet_step (exact Calls.after (HLT.out _))
      iterate 19 go_big_quiet_step (fail)
      refine wpQuiet_nil ?_
      rintro _ ⟨i, rfl⟩
      have hib := i.h
      clear a0 a1 a2 b0 b1 b2 b18
      skip
      generalize i.w = wi at hib ⊢
      rw [hW2.out] at hib
      go_wp2
      go_ret
      exact ⟨aB HE.out.symm, hb0.trans ((mf hbw hB1 hib).mono (by omega))⟩
    | true =>
      rw [h1] at hR0
      have HR := Lib.hid hR0
      clear hR0
      rcases Nat.eq_zero_or_pos k with hk0 | hk0
      ·refine y72 ?_
       intro J8 hdk
       have hT2 : Hid (overOk d l = (!(decide (x.a = d.a) && decide (d.seq ≤ x.seq)) && di d (bC l (k + 1)) (l.drop (k + 1)))) := by
            rw [Hid, HT.out]; unfold jS; rw [h1]; subst hk0; simp [bC]
       clear HT h1 hk0
       by_cases h4 : x.a = d.a
       ·rw [decide_eq_true h4] at vG
        by_cases h5 : d.seq ≤ x.seq
        ·have HE : Hid (overOk d l = false) := by rw [Hid, hT2.out]; simp [h4, h5]
         clear h4 hT2
         refine y2 ?_
         intro W2 hW2 a0 a1 a2 b0 b1 b2 b18
         skip
         refine y9 ?_
         rintro _ ⟨i, rfl⟩
         have hib := i.h
         clear a0 a1 a2 b0 b1 b2 b18
         skip
         exact z99
        ·have HE : Hid (overOk d l = di d (bC l (k + 1)) (l.drop (k + 1))) := by rw [Hid, hT2.out]; simp [h5]
         exact z17
       ·rw [decide_eq_false h4] at vG
        have HE : Hid (overOk d l = di d (bC l (k + 1)) (l.drop (k + 1))) := by rw [Hid, hT2.out]; simp [h4]
        exact z17
      ·obtain ⟨j, rfl⟩ : ∃ j, k = j + 1 := ⟨k - 1, by omega⟩
       have hj : j < l.length := by omega
       have f0 := hdr.dev j hj
       have f1 := hdr.inc j hj
       have f2 := hdr.seq j hj
       have hpv : bC l (j + 1) = some l[j] := by simp [bC, hj]
       have hT1 : Hid (overOk d l = (cZ l[j] x && (!(decide (x.a = d.a) && decide (d.seq ≤ x.seq)) && di d (bC l (j + 1 + 1)) (l.drop (j + 1 + 1))))) := by
            rw [Hid, HT.out, hpv]; unfold jS; rw [h1]; simp [Bool.and_assoc]
       have vF := fun (W : World) => zl l[j] x W
       generalize l[j] = y at *
       refine y24 ?_
       intro hdk hww
       clear HT h1 hpv hdr hd0
       cases h2 : cZ y x with
       | false =>
         have HE : Hid (overOk d l = false) := by rw [Hid, hT1.out, h2]; rfl
         rw [h2] at vF
         have HLT := Lib.hid vF
         clear vF vG h2 hT1
         refine aH (by kernel_rfl) (by kernel_rfl) (fun W2 hW2 => ?_)
         have a0 : ∀ i : After W2, i.w.cell? ⟨wr.heap.size, 0, none⟩ = some (.int .i64 x.a.dev) := fun i => i.cell (by rw [hW2.out]; exact x0)
         have a1 : ∀ i : After W2, i.w.cell? ⟨wr.heap.size, 1, none⟩ = some (.int .i64 x.a.inc) := fun i => i.cell (by rw [hW2.out]; exact x1)
         have a2 : ∀ i : After W2, i.w.cell? ⟨wr.heap.size, 2, none⟩ = some (.int .i64 x.seq) := fun i => i.cell (by rw [hW2.out]; exact x2)
         have b0 : ∀ i : After W2, i.w.cell? ⟨w.heap.size, 0, none⟩ = some (.int .i64 d.a.dev) := fun i => i.cell (by rw [hW2.out]; exact hw0)
         have b1 : ∀ i : After W2, i.w.cell? ⟨w.heap.size, 1, none⟩ = some (.int .i64 d.a.inc) := fun i => i.cell (by rw [hW2.out]; exact hw1)
         have b2 : ∀ i : After W2, i.w.cell? ⟨w.heap.size, 2, none⟩ = some (.int .i64 d.seq) := fun i => i.cell (by rw [hW2.out]; exact hw2)
         have b18 : ∀ i : After W2, i.w.cell? ⟨w.heap.size, 18, none⟩ = some (.slice (some ⟨A, off, none⟩) l.length cap) := fun i => i.cell (by rw [hW2.out]; exact xM)
         have g0 : ∀ i : After W2, i.w.cell? ⟨A, off + j * 3, none⟩ = some (.int .i64 y.a.dev) := fun i => i.cell (by rw [hW2.out]; exact f0)
         have g1 : ∀ i : After W2, i.w.cell? ⟨A, off + j * 3 + 1, none⟩ = some (.int .i64 y.a.inc) := fun i => i.cell (by rw [hW2.out]; exact f1)
         have g2 : ∀ i : After W2, i.w.cell? ⟨A, off + j * 3 + 2, none⟩ = some (.int .i64 y.seq) := fun i => i.cell (by rw [hW2.out]; exact f2)
         go_big_quiet_step (fail)
         go_big_quiet_step (exact Calls.after (HR.out _))
         iterate 12 go_big_quiet_step (fail)
         go_big_quiet_step (exact Calls.after (HLT.out _))
         iterate 19 go_big_quiet_step (fail)
         refine wpQuiet_nil ?_
         rintro _ ⟨i, rfl⟩
         have hib := i.h
         clear a0 a1 a2 b0 b1 b2 b18
         clear g0 g1 g2 hww
         generalize i.w = wi at hib ⊢
         rw [hW2.out] at hib
         go_wp2
         go_ret
         exact ⟨aB HE.out.symm, hb0.trans ((mf hbw hB1 hib).mono (by omega))⟩
       | true =>
         have hT2 : Hid (overOk d l = (!(decide (x.a = d.a) && decide (d.seq ≤ x.seq)) && di d (bC l (j + 1 + 1)) (l.drop (j + 1 + 1)))) := by
          rw [Hid, hT1.out, h2]; rfl
         rw [h2] at vF
         have HLT := Lib.hid vF
         clear vF h2 hT1
         by_cases h4 : x.a = d.a
         ·rw [decide_eq_true h4] at vG
          by_cases h5 : d.seq ≤ x.seq
          ·have HE : Hid (overOk d l = false) := by rw [Hid, hT2.out]; simp [h4, h5]
           clear h4 hT2
           refine y2 ?_
           intro W2 hW2 a0 a1 a2 b0 b1 b2 b18
           refine y20 ?_
           intro g0 g1 g2
           refine y9 ?_
           rintro _ ⟨i, rfl⟩
           have hib := i.h
           clear a0 a1 a2 b0 b1 b2 b18
           clear g0 g1 g2 hww
           exact z99
          ·have HE : Hid (overOk d l = di d (bC l (j + 1 + 1)) (l.drop (j + 1 + 1))) := by rw [Hid, hT2.out]; simp [h5]
           exact z63
         ·rw [decide_eq_false h4] at vG
          have HE : Hid (overOk d l = di d (bC l (j + 1 + 1)) (l.drop (j + 1 + 1))) := by rw [Hid, hT2.out]; simp [h4]
          exact z63
   ·have HE : Hid (overOk d l = true) := by rw [Hid, HP.out, List.drop_eq_nil_of_le (by omega)]; rfl
    go_wp2
    go_ret
    exact ⟨aB HE.out.symm, hb0.trans (hbw.mono (by omega))⟩
 ·have HE : Hid (overOk d l = false) := by unfold Hid overOk; simp [h64]
  go_enter Tryz.func113, Tryz.ntmps113
  exact z49
theorem LK (d : Dot) (v3 v4 v5 v6 v7 v8 v9 v10 v11 v12 v13 v14 v15 v16 v17 : Value) (a : Option Addr) (cap : Nat) (l : List Dot) (w : World) (hd : DotsIn w a l) (hl : l.length ≤ 1073741824) :
 Calls Tryz.prog 113 #[.agg #[.int .i64 d.a.dev, .int .i64 d.a.inc, .int .i64 d.seq, v3, v4, v5, v6, v7, v8, v9, v10, v11, v12, v13, v14, v15, v16, v17, .slice a l.length cap]] w fun e w' => e = .returned (.bool (overOk d l)) ∧ Below w.heap.size w w' := by
 rcases hd with rfl | ⟨A, off, rfl, hd⟩
 ·have HE : Hid (overOk d [] = true) := rfl
  rw [List.length_nil]
  go_enter Tryz.func113, Tryz.ntmps113
  go_wp2
  go_rounds 1
  go_ret
  exact ⟨aB HE.out.symm, by go_grown⟩
 ·exact JD d v3 v4 v5 v6 v7 v8 v9 v10 v11 v12 v13 v14 v15 v16 v17 A off cap l w hd hl
end Go.Proofs.YtdlmbflhbecggaaGreat
