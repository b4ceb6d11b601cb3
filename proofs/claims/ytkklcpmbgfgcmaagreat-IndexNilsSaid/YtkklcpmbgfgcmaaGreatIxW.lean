/- The reference's count of nodes. Conditions: as in the text. -/
import Derived.Test.YtkklcpmbgfgcmaaGreatIxT
set_option linter.unusedSimpArgs false
set_option linter.unusedVariables false
set_option linter.unnecessarySimpa false
namespace Go.Proofs.YtkklcpmbgfgcmaaGreat
open Go.RowKit
variable {lo : Nat}
/-- a path of labels as the reference writes it -/
def encB (q : Path) : Bytes := q.foldl (fun s x => 46 :: (x ++ s)) []
theorem encB_snoc (q : Path) (x : Bytes) : encB (q ++ [x]) = 46 :: (x ++ encB q) := by simp [encB]
def DotFree (q : Path) : Prop := ∀ s ∈ q, ∀ c ∈ s, c ≠ 46
theorem split_self : ∀ {x : Bytes}, (∀ c ∈ x, c ≠ 46) → splitB 46 x = [x]
 | [], _ => rfl
 | c :: x, h => by
   rw [splitB, split_self fun d hd => h d (List.mem_cons_of_mem _ hd), if_neg]
   intro e
   exact h c List.mem_cons_self (UInt8.toNat_inj.1 e)
theorem split_dot (x : Bytes) : splitB 46 (46 :: x) = [] :: splitB 46 x := by rw [splitB, if_pos rfl]
theorem split_enc : ∀ (n : Nat) (q : Path), q.length = n → DotFree q → splitB 46 (encB q) = [] :: q.reverse := by
 intro n
 induction n with
 | zero =>
   intro q hq _
   rw [List.length_eq_zero_iff.1 hq]
   rfl
 | succ n ih =>
   intro q hq hd
   rcases List.eq_nil_or_concat q with rfl | ⟨q', x, rfl⟩
   ·cases hq
   ·have hq' : q'.length = n := by simpa using hq
    have hx : ∀ c ∈ x, c ≠ 46 := hd x (by simp)
    have h1 := ih q' hq' fun s hs => hd s (by simp [hs])
    rw [List.concat_eq_append, encB_snoc, split_dot, List.reverse_append]
    rcases List.eq_nil_or_concat q' with rfl | ⟨q2, y, rfl⟩
    ·show [] :: splitB 46 (x ++ []) = _
     rw [List.append_nil, split_self hx]
     rfl
    ·rw [List.concat_eq_append, encB_snoc, split_dot] at h1
     rw [List.concat_eq_append, encB_snoc, split_app, split_self hx, (List.cons.inj h1).2]
     rfl
theorem encB_inj {p q : Path} (hp : DotFree p) (hq : DotFree q) (h : encB p = encB q) : p = q := by
 have h1 := split_enc _ p rfl hp
 rw [h, split_enc _ q rfl hq] at h1
 exact (List.reverse_inj.1 (List.cons.inj h1).2).symm
/-- a list of paths, none twice, and what lies in it -/
structure Met (N us : List Path) : Prop where
 nd : us.Nodup
 mem : ∀ q, q ∈ us ↔ q ∈ N
 df : ∀ q ∈ us, DotFree q
theorem Met.nil : Met [] [] := ⟨List.nodup_nil, fun _ => Iff.rfl, fun q hq => (nomatch hq)⟩
theorem Met.keep {N us : List Path} {p : Path} (h : Met N us) (hp : p ∈ us) : Met (N ++ [p]) us :=
 ⟨h.nd, fun q => by
  rw [h.mem, List.mem_append, List.mem_singleton]
  exact ⟨Or.inl, fun g => g.elim id fun e => by rw [e]; exact (h.mem p).1 hp⟩, h.df⟩
theorem Met.add {N us : List Path} {p : Path} (h : Met N us) (hp : p ∉ us) (hd : DotFree p) : Met (N ++ [p]) (us ++ [p]) :=
 ⟨List.nodup_append.2 ⟨h.nd, by simp, fun a ha b hb e => by
  rw [List.mem_singleton.1 hb] at e
  exact hp (e ▸ ha)⟩, fun q => by rw [List.mem_append, List.mem_append, h.mem], fun q hq => by
  rcases List.mem_append.1 hq with hq | hq
  ·exact h.df q hq
  ·rw [List.mem_singleton.1 hq]; exact hd⟩
theorem Met.any {N us : List Path} {p : Path} (h : Met N us) (hd : DotFree p) : (us.any fun u => decide (encB u = encB p)) = decide (p ∈ us) := by
 rw [Bool.eq_iff_iff, List.any_eq_true, decide_eq_true_eq]
 constructor
 ·rintro ⟨u, hu, he⟩
  rw [← encB_inj (h.df u hu) hd (of_decide_eq_true he)]
  exact hu
 ·exact fun hp => ⟨p, hp, decide_eq_true rfl⟩
end Go.Proofs.YtkklcpmbgfgcmaaGreat
