/- What bytes are read as: plain functions. Conditions: none. -/
import Derived.Test.YtnpdfmpjjomhcaaInj
import Derived.Test.YtnpdfmpjjomhcaaDecA
set_option linter.unusedSimpArgs false
set_option linter.unusedVariables false
set_option linter.unnecessarySimpa false
namespace Go.Proofs.Ytnpdfmpjjomhcaa

/-- what is left, and the first error -/
structure Rd where
  b : Bytes
  e : Int
def rNum (most : Nat) (r : Rd) : Rd × Nat :=
  if r.e = 0 then (if (getS r.b).2.2 = 0 then (if most < (getS r.b).1 then (⟨r.b, 3⟩, 0) else (⟨r.b.drop (getS r.b).2.1, 0⟩, (getS r.b).1)) else (⟨r.b, (getS r.b).2.2⟩, 0)) else (r, 0)
/-- the whole number of a fold -/
def unzig (n : Nat) : Int := if n % 2 = 0 then ((n / 2 : Nat) : Int) else -((n / 2 : Nat) : Int) - 1
def rInt (most : Int) (r : Rd) : Rd × Int :=
  if r.e = 0 then (if (getS r.b).2.2 = 0 then (if max most 0 < unzig (getS r.b).1 ∨ unzig (getS r.b).1 < - max most 0 then (⟨r.b, 3⟩, 0) else (⟨r.b.drop (getS r.b).2.1, 0⟩, unzig (getS r.b).1)) else (⟨r.b, (getS r.b).2.2⟩, 0)) else (r, 0)
def rText (most : Nat) (r : Rd) : Rd × Bytes :=
  if r.e = 0 then
    (if (rNum most r).1.e = 0 then (if (rNum most r).1.b.length < (rNum most r).2 then (⟨r.b, 2⟩, []) else (⟨(rNum most r).1.b.drop (rNum most r).2, 0⟩, (rNum most r).1.b.take (rNum most r).2)) else ((rNum most r).1, []))
  else (r, [])
theorem rNum_fit (most : Nat) (r : Rd) : (rNum most r).1.b.length ≤ r.b.length ∧ (rNum most r).2 ≤ most := by
  unfold rNum
  split
  · split
    · split
      · simp
      · simp; omega
    · simp
  · simp
theorem rText_fit (most : Nat) (r : Rd) : (rText most r).1.b.length ≤ r.b.length ∧ (rText most r).2.length ≤ most := by
  have h := rNum_fit most r
  unfold rText
  split
  · split
    · split
      · simp
      · simp; omega
    · simp; omega
  · simp
theorem rInt_fit (most : Int) (r : Rd) (h0 : 0 ≤ most) : (rInt most r).1.b.length ≤ r.b.length ∧ -most ≤ (rInt most r).2 ∧ (rInt most r).2 ≤ most := by
  unfold rInt
  split
  · split
    · split
      · simp; omega
      · simp; omega
    · simp; omega
  · simp; omega
/-- the five lowest bits -/
def bits5 (c : Nat) : List Bool := [decide (c % 2 = 1), decide (c / 2 % 2 = 1), decide (c / 4 % 2 = 1), decide (c / 8 % 2 = 1), decide (c / 16 % 2 = 1)]
def rFlags (r : Rd) : Rd × List Bool :=
  if r.e = 0 then (if r.b = [] then (⟨r.b, 2⟩, []) else if (r.b.headD 0).toNat < 32 then (⟨r.b.drop 1, 0⟩, bits5 (r.b.headD 0).toNat) else (⟨r.b, 1⟩, [])) else (r, [])
theorem rFlags_fit (r : Rd) : (rFlags r).1.b.length ≤ r.b.length := by
  unfold rFlags
  split
  · split
    · simp
    · split <;> simp
  · simp
def rFail (r : Rd) (e : Int) : Rd := if r.e = 0 then ⟨r.b, e⟩ else r
def rEnd (r : Rd) : Int := if r.e = 0 then (if 0 < r.b.length then 1 else 0) else r.e
def dot0 : Dot := ⟨⟨0, 0⟩, 0⟩
def stamp0 : Stamp := ⟨0, 0, 0⟩
def rDot (r : Rd) : Rd × Dot :=
  let x := rNum 63 r
  let y := rNum 1048576 x.1
  let z := rNum 4294967296 y.1
  let d : Dot := ⟨⟨x.2, y.2⟩, z.2⟩
  if z.1.e = 0 then (if dotOk d = true then (z.1, d) else (rFail z.1 4, dot0)) else (z.1, dot0)
def rStamp (r : Rd) : Rd × Stamp :=
  let x := rNum 4398046511104 r
  let y := rNum 65535 x.1
  let z := rNum 63 y.1
  if z.1.e = 0 then (z.1, ⟨x.2, y.2, z.2⟩) else (z.1, stamp0)
/-- n dots, one behind the other, till an error -/
def rDots : Nat → Rd → Rd × List Dot
  | 0, r => (r, [])
  | n + 1, r => if r.e = 0 then ((rDots n (rDot r).1).1, (rDot r).2 :: (rDots n (rDot r).1).2) else (r, [])
def ev0 : Ev := ⟨dot0, stamp0, 0, key0, ck0, []⟩
/-- the reader behind a put's key and cookie -/
def rItem (r : Rd) : Rd := (rNum 1099511627776 (rNum 1099511627776 (rInt 1099511627776 (rText 1024 (rText 256 (rText 256 (rText 256 r).1).1).1).1).1).1).1
/-- an event with the key and the cookie that are read -/
def withItem (e : Ev) (r : Rd) : Ev :=
  { e with
    key := ⟨mkS (rText 256 r).2, mkS (rText 256 (rText 256 r).1).2, mkS (rText 256 (rText 256 (rText 256 r).1).1).2⟩
    ck := { e.ck with
      value := mkS (rText 1024 (rText 256 (rText 256 (rText 256 r).1).1).1).2
      expiry := (rInt 1099511627776 (rText 1024 (rText 256 (rText 256 (rText 256 r).1).1).1).1).2
      creation := (rNum 1099511627776 (rInt 1099511627776 (rText 1024 (rText 256 (rText 256 (rText 256 r).1).1).1).1).1).2
      access := (rNum 1099511627776 (rNum 1099511627776 (rInt 1099511627776 (rText 1024 (rText 256 (rText 256 (rText 256 r).1).1).1).1).1).1).2 } }
def flagOf (l : List Bool) (k : Nat) : Bool := l.getD k false
/-- an event, read: ahead of the last test -/
def evGo (r : Rd) : Rd × Ev :=
  let a := rDot r
  let b := rStamp a.1
  let f := rFlags b.1
  let n := rNum 64 f.1
  let o := rDots n.2 n.1
  let e0 : Ev := ⟨a.2, b.2, 2, key0, ck0, o.2⟩
  let e1 : Ev := ⟨a.2, b.2, 2, key0, ⟨ByteArray.empty, flagOf f.2 1, flagOf f.2 2, flagOf f.2 3, flagOf f.2 4, 0, 0, 0⟩, o.2⟩
  if f.2 = [] then (o.1, e0) else if flagOf f.2 0 = true then (rItem o.1, withItem { e1 with kind := 1 } o.1) else (o.1, e1)
/-- the last test -/
def evFin (x : Rd × Ev) : Rd × Ev := if x.1.e = 0 then (if evOk x.2 = true then x else (⟨x.1.b, 1⟩, ev0)) else (x.1, ev0)
def rEv (r : Rd) : Rd × Ev := evFin (evGo r)
theorem evGo_eq (r : Rd) {a b f n o : Rd} {d : Dot} {s : Stamp} {fl : List Bool} {k : Nat} {l : List Dot} (h1 : rDot r = (a, d)) (h2 : rStamp a = (b, s)) (h3 : rFlags b = (f, fl)) (h4 : rNum 64 f = (n, k)) (h5 : rDots k n = (o, l)) :
    evGo r = if fl = [] then (o, ⟨d, s, 2, key0, ck0, l⟩) else if flagOf fl 0 = true then (rItem o, withItem ⟨d, s, 1, key0, ⟨ByteArray.empty, flagOf fl 1, flagOf fl 2, flagOf fl 3, flagOf fl 4, 0, 0, 0⟩, l⟩ o) else (o, ⟨d, s, 2, key0, ⟨ByteArray.empty, flagOf fl 1, flagOf fl 2, flagOf fl 3, flagOf fl 4, 0, 0, 0⟩, l⟩) := by
  unfold evGo; simp only [h1, h2, h3, h4, h5]
theorem rFlags_five (r : Rd) : (rFlags r).2 = [] ∨ ∃ b0 b1 b2 b3 b4, (rFlags r).2 = [b0, b1, b2, b3, b4] := by
  unfold rFlags
  split
  · split
    · exact Or.inl rfl
    · split
      · exact Or.inr ⟨_, _, _, _, _, rfl⟩
      · exact Or.inl rfl
  · exact Or.inl rfl
end Go.Proofs.Ytnpdfmpjjomhcaa
