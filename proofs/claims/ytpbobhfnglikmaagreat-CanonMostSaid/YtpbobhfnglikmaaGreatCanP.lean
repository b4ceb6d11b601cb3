/- canon: how long Full may be, plainly. Conditions: as in the text. -/
import Derived.Test.YtpbobhfnglikmaaGreatCanA
import Derived.Test.YtpbobhfnglikmaaGreatRefR
set_option linter.unusedSimpArgs false
set_option linter.unusedVariables false
set_option linter.unnecessarySimpa false
set_option maxHeartbeats 16000000
set_option maxRecDepth 100000
namespace Go.Proofs.YtpbobhfnglikmaaGreat
open Go.RowKit
theorem dotB_len9 (d : Dot) : (dotB d).length ≤ 9 := by
 unfold dotB
 split
 ·rename_i h
  unfold dotOk actorOk at h
  simp at h
  have l1 := shortB_len 0 d.a.dev.toNat (by omega)
  have l2 := shortB_len 2 d.a.inc.toNat (by omega)
  have l3 := shortB_len 4 d.seq.toNat (by omega)
  simp only [List.length_append]; omega
 ·simp
theorem dotsB_len9 : ∀ l : List Dot, (dotsB l).length ≤ 9 * l.length
 | [] => by simp [dotsB]
 | d :: r => by
   have h1 := dotB_len9 d
   have h2 := dotsB_len9 r
   unfold dotsB at h2 ⊢
   simp only [List.map_cons, List.flatten_cons, List.length_append, List.length_cons]
   omega
theorem stampB_len11 (s : Stamp) : (stampB s).length ≤ 11 := by
 unfold stampB
 split
 ·rename_i h
  unfold stampOk at h
  simp at h
  have l1 := shortB_len 6 s.wall.toNat (by omega)
  have l2 := shortB_len 2 s.count.toNat (by omega)
  have l3 := shortB_len 0 s.dev.toNat (by omega)
  simp only [List.length_append]; omega
 ·simp
theorem textB_len2 (s : ByteArray) (n : Nat) (h : s.size ≤ n) (hn : n < 16384) : (textB (bl s)).length ≤ n + 2 := by
 unfold textB
 have l1 := shortB_len 1 (bl s).length (by rw [bl_length]; omega)
 rw [List.length_append, bl_length] at *
 omega
/-- an event that replaces nothing packs into no more -/
theorem evB_len1840 {e : Ev} (h : evOk e = true) (h0 : e.over = []) : (evB e).length ≤ 1840 := by
 have hf := evOk_fit h
 have d1 := dotB_len9 e.dot
 have d2 := stampB_len11 e.stamp
 have d3 : (shortB e.over.length).length = 1 := by rw [h0]; decide +kernel
 have d4 : (dotsB e.over).length = 0 := by rw [h0]; rfl
 obtain ⟨s1, s2, s3, s4⟩ := evOk_short h
 have t1 := textB_len2 e.key.name 256 s1 (by decide)
 have t2 := textB_len2 e.key.domain 256 s2 (by decide)
 have t3 := textB_len2 e.key.path 256 s3 (by decide)
 have t4 := textB_len2 e.ck.value 1024 s4 (by decide)
 unfold evB evHead evTail
 split
 ·rename_i h1
  obtain ⟨⟨f1, f2⟩, ⟨f3, f4⟩, f5, f6⟩ := hf.item h1
  have t5 : (zigB e.ck.expiry).length ≤ 6 := shortB_len 5 _ (by unfold Lib.zigzag; split <;> omega)
  have t6 := shortB_len 5 e.ck.creation.toNat (by omega)
  have t7 := shortB_len 5 e.ck.access.toNat (by omega)
  simp only [List.length_append, List.length_singleton]; omega
 ·simp only [List.length_append, List.length_singleton, List.length_nil]; omega
theorem evsB_len1840 : ∀ l : List Ev, (∀ e ∈ l, evOk e = true ∧ e.over = []) → (evsB l).length ≤ 1840 * l.length
 | [], _ => Nat.zero_le _
 | e :: l, h => by
   have h1 := evB_len1840 (h e List.mem_cons_self).1 (h e List.mem_cons_self).2
   have h2 := evsB_len1840 l fun x hx => h x (List.mem_cons_of_mem _ hx)
   show (evB e ++ evsB l).length ≤ _
   rw [List.length_append, List.length_cons]
   omega
theorem rmAp_dead {r : RM} {e : Ev} (hr : r.dead = []) (he : e.over = []) : (rmAp r e).dead = [] := by
 unfold rmAp
 split
 ·show sortD (r.dead ++ e.over) = []
  rw [hr, he]
  rfl
 ·exact hr
theorem rmFold_dead : ∀ (l : List Ev) {r : RM}, r.dead = [] → (∀ e ∈ l, e.over = []) → (l.foldl rmAp r).dead = []
 | [], _, hr, _ => hr
 | e :: l, _, hr, h => rmFold_dead l (rmAp_dead hr (h e List.mem_cons_self)) fun x hx => h x (List.mem_cons_of_mem _ hx)
theorem rmAp_kept {r : RM} {e : Ev} {P : Ev → Prop} (hr : ∀ x ∈ r.kept, P x) (he : P e) : ∀ x ∈ (rmAp r e).kept, P x := by
 unfold rmAp
 split
 ·intro x hx
  rcases insE_mem.1 hx with rfl | hx
  ·exact he
  ·exact hr x hx
 ·exact hr
theorem rmFold_kept {P : Ev → Prop} : ∀ (l : List Ev) {r : RM}, (∀ x ∈ r.kept, P x) → (∀ e ∈ l, P e) → ∀ x ∈ (l.foldl rmAp r).kept, P x
 | [], _, hr, _ => hr
 | e :: l, _, hr, h => rmFold_kept l (rmAp_kept hr (h e List.mem_cons_self)) fun x hx => h x (List.mem_cons_of_mem _ hx)
theorem fullB_len {s : MS} (hi : MInv s) (nd : (s.K.map (·.1.dot)).Nodup) (hc : s.ctx.length ≤ 60) (hK : s.K.length ≤ 60) (hd : sortD s.dead = []) (ho : ∀ e ∈ eventsOf s, e.over = []) : (fullB s).length ≤ 8 + 9 * s.ctx.length + 1840 * s.K.length := by
 have h1 := shortB_len 0 s.ctx.length (by omega)
 have h2 := dotsB_len9 s.ctx
 have h3 := shortB_len 0 s.K.length (by omega)
 have h4 := evsB_len1840 (eventsOf s) fun e he => ⟨by
  obtain ⟨z, hz, e9⟩ := (eventsOf_mem nd).1 he
  rw [← e9]
  exact (hi.kept z hz).1, ho e he⟩
 rw [eventsOf_len nd] at h4
 have h5 : (shortB (sortD s.dead).length).length = 1 := by rw [hd]; decide +kernel
 have h6 : (dotsB (sortD s.dead)).length = 0 := by rw [hd]; rfl
 unfold fullB marksB
 simp only [List.length_append]
 omega
end Go.Proofs.YtpbobhfnglikmaaGreat
