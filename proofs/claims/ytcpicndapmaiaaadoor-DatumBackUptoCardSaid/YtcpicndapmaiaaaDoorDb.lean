/- The reader's datum, however deep. -/
import Derived.Test.YtcpicndapmaiaaaDoorDa
namespace Go.Proofs.YtcpicndapmaiaaaDoor
open Go Go.RowKit
theorem printD_list (s : ByteArray) (l t : List D) : printD (.mk 5 s l t) = 40 :: restL l t 0 [] := by simp [printD, restL]
theorem printD_vector (s : ByteArray) (l t : List D) : printD (.mk 6 s l t) = 35 :: 40 :: restL l t 0 [] := by simp [printD, restL]
theorem restL_rest (l t : List D) (rest : List UInt8) : restL l t 0 [] ++ rest = restL l t 0 rest := by simp [restL]
theorem rdatum_step (n : Nat) (hn : n ≤ 64) (ih : ∀ m, n = m + 1 → RDatum m) : RDatum n := by
  intro d b s p rest dp w hd hsm hr hs hx hsep hdp h0
  cases d with
  | mk k u l t =>
    obtain ⟨hu, hl, ht, hla, hta⟩ := hsm.parts
    rcases right_cases n hd with ⟨h1, h2, h3⟩ | ⟨rfl, rfl, rfl⟩ | ⟨m, hm, hk, rfl, g1, g2, g3, g4, g5⟩
    · obtain ⟨e1, e2, _⟩ := leaf_parts h1
      subst e1 e2
      obtain ⟨hk, ha, hp⟩ := leaf_atom h1 h2 (by omega)
      rw [hp] at hx ⊢
      obtain ⟨c, r, hc⟩ : ∃ c r, u.toList = c :: r := by
        cases e : u.toList with
        | nil => exact absurd e ha.ne
        | cons c r => exact ⟨c, r, rfl⟩
      obtain ⟨q1, q2, q3, q4, q5, q6, q7, q8, q9⟩ := ends_not c (ha.ok c (by rw [hc]; simp))
      have hx' : Here s p (c :: (r ++ rest)) := by rw [hc] at hx; exact hx
      refine rdatum_atom k u c (r ++ rest) rest b s p dp w hr hs hx' q1 q2 q3 q4 q5 q9 q8 q7 hx hsep hk ha ?_
      by_cases e : c = 35
      · subst e
        obtain ⟨h4, h5⟩ := ha.hash 0 (by rw [hc]; simp) (by simp [hc])
        cases r with
        | nil => rw [hc] at h4; simp at h4
        | cons c' r' => exact hasPrefix_no2 c' (r' ++ rest) (by simpa [hc] using h5)
      · exact hasPrefix_no1 c _ e
    · have hp : printD (.mk 3 u [] []) = esc u.toList := by simp [printD]
      rw [hp] at hx ⊢
      exact rdatum_string u rest b s p dp w hr hs hx
    · rcases hk with rfl | ⟨rfl, rfl⟩
      · rw [printD_list] at hx ⊢
        rw [List.cons_append, restL_rest] at hx
        have := rdatum_list m (by omega) (ih m hm) l t rest b s p dp w hr hs hx (fun d hd => ⟨g4 d hd, hla d hd⟩) (fun d hd => ⟨g5 d hd, hta d hd⟩) g1 g2 g3 hl (by omega) h0
        rw [List.length_cons, show p + ((restL l t 0 []).length + 1) = p + 1 + (restL l t 0 []).length from by omega]
        exact this
      · rw [printD_vector] at hx ⊢
        rw [List.cons_append, List.cons_append, restL_rest] at hx
        have := rdatum_vector m (by omega) (ih m hm) l [] rest b s p dp w hr hs hx (fun d hd => ⟨g4 d hd, hla d hd⟩) (fun d hd => ⟨g5 d hd, hta d hd⟩) g1 g2 rfl g3 hl (by omega) h0
        rw [List.length_cons, List.length_cons, show p + ((restL l [] 0 []).length + 1 + 1) = p + 2 + (restL l [] 0 []).length from by omega]
        exact this
theorem rdatum_any : ∀ n, n ≤ 64 → RDatum n := by
  intro n
  induction n with
  | zero => exact fun h => rdatum_step 0 h (fun m hm => by omega)
  | succ n ih => exact fun h => rdatum_step (n + 1) h (fun m hm => (show n = m from by omega) ▸ ih (by omega))
end Go.Proofs.YtcpicndapmaiaaaDoor
