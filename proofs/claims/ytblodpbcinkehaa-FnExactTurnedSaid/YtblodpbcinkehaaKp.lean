/-
  Steps of a run, each with the values that it needs: what the printed proofs are made of. No conditions.
-/
import Derived.Test.YtblodpbcinkehaaKo
set_option linter.unusedVariables false
set_option linter.unusedSimpArgs false
namespace Go.Proofs.Ytblodpbcinkehaa.K

/-- What a call knows of its own blocks: cells, or what an appended list bears; and of blocks that came to it by reference (the numbers S). -/
inductive Res where
  | blk (n : Nat) (b : Blk)
  | own (v : V) (d sz n : Nat) (cells : List V)
  | fblk (S : List Nat) (n : Nat) (b : Blk)
  | fown (S : List Nat) (v : V) (d d1 sz n : Nat) (cells : List V)
  | tree (S F : List Nat) (p : Heap → Prop)
def Res.nums : Res → List Nat
  | .blk n _ => [n]
  | .own (.snap b _ _) _ _ _ _ => [b]
  | .fblk _ n _ => [n]
  | .fown _ (.snap b _ _) _ _ _ _ _ => [b]
  | .tree _ F _ => F
  | _ => []
def Res.isOwn : Res → Bool
  | .blk .. => true
  | .own .. => true
  | _ => false
def Res.ok (H G : Heap) : Res → Prop
  | .blk n b => H.length ≤ n ∧ G[n]? = some b
  | .own v d sz n cells => cells.length = n * sz ∧ (v = .tl n cells ∨ ∃ b, v = .snap b n cells ∧ H.length ≤ b ∧ G[b]? = some (.bld d n sz))
  | .fblk S n b => (n < H.length → n ∈ S) ∧ G[n]? = some b
  | .fown S v d d1 sz n cells => cells.length = n * sz ∧ (v = .tl n cells ∨ ∃ b l, v = .snap b n cells ∧ G[b]? = some (.bld l n sz) ∧ ((b < H.length ∧ b ∈ S ∧ l = d) ∨ (H.length ≤ b ∧ l = d1)))
  | .tree S F p => (∀ b ∈ F, b < G.length ∧ (b < H.length → b ∈ S)) ∧ ∀ G', (∀ b ∈ F, G'[b]? = G[b]?) → p G'
structure Owns (H G : Heap) (rs : List Res) : Prop where
  pre : ∀ b, b < H.length → G[b]? = H[b]?
  len : H.length ≤ G.length
  ok : ∀ r ∈ rs, r.ok H G
  apart : rs.Pairwise fun r r' => ∀ x ∈ r.nums, x ∉ r'.nums

theorem Owns.nil (H : Heap) : Owns H H [] := ⟨fun _ _ => rfl, Nat.le_refl _, fun _ h => absurd h (by simp), .nil⟩
theorem Owns.drop {H G : Heap} {rs rs' : List Res} (h : Owns H G rs) (hs : rs'.Sublist rs) : Owns H G rs' := ⟨h.pre, h.len, fun r hr => h.ok r (hs.subset hr), h.apart.sublist hs⟩
theorem Res.nums_lt {H G : Heap} {r : Res} (h : r.ok H G) {x : Nat} (hx : x ∈ r.nums) : x < G.length := by
  cases r with
  | blk n b =>
    simp only [Res.nums, List.mem_singleton] at hx
    subst hx
    exact (List.getElem?_eq_some_iff.1 h.2).1
  | own v d sz n cells =>
    obtain ⟨_, rfl | ⟨b, rfl, h1, h2⟩⟩ := h
    · simp [Res.nums] at hx
    · simp only [Res.nums, List.mem_singleton] at hx
      subst hx
      exact (List.getElem?_eq_some_iff.1 h2).1
  | fblk S n b =>
    simp only [Res.nums, List.mem_singleton] at hx
    subst hx
    exact (List.getElem?_eq_some_iff.1 h.2).1
  | fown S v d d1 sz n cells =>
    obtain ⟨_, rfl | ⟨b, l, rfl, h1, h2⟩⟩ := h
    · simp [Res.nums] at hx
    · simp only [Res.nums, List.mem_singleton] at hx
      subst hx
      exact (List.getElem?_eq_some_iff.1 h1).1
  | tree S F p => exact (h.1 x hx).1
theorem Res.nums_lo {H G : Heap} {r : Res} (h : r.ok H G) (ho : r.isOwn = true) {x : Nat} (hx : x ∈ r.nums) : H.length ≤ x := by
  cases r with
  | blk n b =>
    simp only [Res.nums, List.mem_singleton] at hx
    subst hx
    exact h.1
  | own v d sz n cells =>
    obtain ⟨_, rfl | ⟨b, rfl, h1, h2⟩⟩ := h
    · simp [Res.nums] at hx
    · simp only [Res.nums, List.mem_singleton] at hx
      subst hx
      exact h1
  | fblk S n b => cases ho
  | fown S v d d1 sz n cells => cases ho
  | tree S F p => cases ho
theorem Res.ok_mono {H G G' : Heap} {r : Res} (h : r.ok H G) (hg : ∀ x ∈ r.nums, G'[x]? = G[x]?) : r.ok H G' := by
  cases r with
  | blk n b => exact ⟨h.1, by rw [hg n (by simp [Res.nums])]; exact h.2⟩
  | own v d sz n cells =>
    obtain ⟨hc, h | ⟨b, rfl, h1, h2⟩⟩ := h
    · exact ⟨hc, .inl h⟩
    · exact ⟨hc, .inr ⟨b, rfl, h1, by rw [hg b (by simp [Res.nums])]; exact h2⟩⟩
  | fblk S n b => exact ⟨h.1, by rw [hg n (by simp [Res.nums])]; exact h.2⟩
  | fown S v d d1 sz n cells =>
    obtain ⟨hc, h | ⟨b, l, rfl, h1, h2⟩⟩ := h
    · exact ⟨hc, .inl h⟩
    · exact ⟨hc, .inr ⟨b, l, rfl, by rw [hg b (by simp [Res.nums])]; exact h1, h2⟩⟩
  | tree S F p =>
    refine ⟨fun b hb => ⟨?_, (h.1 b hb).2⟩, fun G2 h2 => h.2 G2 fun b hb => by rw [h2 b hb, hg b hb]⟩
    have e := List.getElem?_eq_getElem (h.1 b hb).1
    rw [← hg b hb] at e
    exact (List.getElem?_eq_some_iff.1 e).1
theorem Res.ok_len {H H' G : Heap} {r : Res} (hl : H'.length = H.length) (h : r.ok H G) : r.ok H' G := by
  cases r with
  | blk n b => exact ⟨by rw [hl]; exact h.1, h.2⟩
  | own v d sz n cells => unfold Res.ok at h ⊢; rw [hl]; exact h
  | fblk S n b => unfold Res.ok at h ⊢; rw [hl]; exact h
  | fown S v d d1 sz n cells => unfold Res.ok at h ⊢; rw [hl]; exact h
  | tree S F p => unfold Res.ok at h ⊢; rw [hl]; exact h
theorem Owns.push {H G : Heap} {rs : List Res} (h : Owns H G rs) (x : Blk) {r : Res} (hn : r.nums = [G.length]) (hr : r.ok H (G ++ [x])) : Owns H (G ++ [x]) (r :: rs) where
  pre := fun b hb => by rw [List.getElem?_append_left (Nat.lt_of_lt_of_le hb h.len)]; exact h.pre b hb
  len := by rw [List.length_append]; have := h.len; omega
  ok := fun r' hr' => by
    rcases List.mem_cons.1 hr' with rfl | hr'
    · exact hr
    · have h1 := h.ok r' hr'
      exact Res.ok_mono h1 fun x hx => by rw [List.getElem?_append_left (Res.nums_lt h1 hx)]
  apart := by
    refine List.pairwise_cons.2 ⟨fun r' hr' x hx hx' => ?_, h.apart⟩
    rw [hn] at hx
    simp only [List.mem_singleton] at hx
    subst hx
    exact absurd (Res.nums_lt (h.ok r' hr') hx') (Nat.lt_irrefl _)
theorem push_get (G : Heap) (x : Blk) : (G ++ [x])[G.length]? = some x := by simp
theorem Owns.alloc {H G : Heap} {rs : List Res} (h : Owns H G rs) (x : Blk) : Owns H (G ++ [x]) (.blk G.length x :: rs) := h.push x rfl ⟨h.len, push_get G x⟩
theorem pairwise_set {rs : List Res} (h : rs.Pairwise fun r r' => ∀ x ∈ r.nums, x ∉ r'.nums) {k : Nat} {r r' : Res} (hk : rs[k]? = some r) (hn : ∀ x ∈ r'.nums, x ∈ r.nums) : (rs.set k r').Pairwise fun r r' => ∀ x ∈ r.nums, x ∉ r'.nums := by
  rw [List.pairwise_iff_getElem] at h ⊢
  intro i j hi hj hij x hx hx'
  simp only [List.length_set] at hi hj
  simp only [List.getElem_set] at hx hx'
  obtain ⟨hk1, hk2⟩ := List.getElem?_eq_some_iff.1 hk
  split at hx
  · rename_i e
    subst e
    rw [if_neg (by omega)] at hx'
    refine h k j hk1 hj hij x ?_ hx'
    rw [hk2]; exact hn x hx
  · split at hx'
    · rename_i e
      subst e
      refine h i k hi hk1 hij x hx ?_
      rw [hk2]; exact hn x hx'
    · exact h i j hi hj hij x hx hx'
theorem Owns.set {H G : Heap} {rs : List Res} (h : Owns H G rs) {k n : Nat} {r r' : Res} {x : Blk} (hk : rs[k]? = some r) (hr : r.nums = [n]) (hn : r'.nums = [n]) (ho : r'.ok H (G.set n x)) (hw : r.isOwn = true := by rfl) : Owns H (G.set n x) (rs.set k r') where
  pre := fun b hb => by
    rw [set_get, if_neg]
    · exact h.pre b hb
    · rintro ⟨rfl, _⟩
      have := Res.nums_lo (h.ok r (List.mem_of_getElem? hk)) hw (x := n) (by rw [hr]; simp)
      omega
  len := by rw [List.length_set]; exact h.len
  ok := fun r2 hr2 => by
    obtain ⟨j, hj, e⟩ := List.mem_iff_getElem.1 hr2
    simp only [List.length_set] at hj
    rw [List.getElem_set] at e
    split at e
    · rw [← e]; exact ho
    · rename_i hne
      subst e
      obtain ⟨hk1, hk2⟩ := List.getElem?_eq_some_iff.1 hk
      have h1 := h.ok _ (List.getElem_mem hj)
      refine Res.ok_mono h1 fun y hy => ?_
      rw [set_get, if_neg]
      rintro ⟨rfl, _⟩
      have hp := List.pairwise_iff_getElem.1 h.apart
      rcases Nat.lt_or_ge k j with hkj | hkj
      · exact hp k j hk1 hj hkj n (by rw [hk2, hr]; simp) hy
      · exact hp j k hj hk1 (by omega) n hy (by rw [hk2, hr]; simp)
  apart := pairwise_set h.apart hk (by rw [hr, hn]; exact fun _ h => h)
/-- A block that came by reference is written: what lies outside changes there. -/
theorem Owns.setF {H G : Heap} {rs : List Res} (h : Owns H G rs) {k n : Nat} {r r' : Res} {x : Blk} (hk : rs[k]? = some r) (hr : r.nums = [n]) (hn : r'.nums = [n]) (ho : r'.ok H (G.set n x)) : Owns (H.set n x) (G.set n x) (rs.set k r') where
  pre := fun b hb => by
    rw [List.length_set] at hb
    have hg := Res.nums_lt (h.ok r (List.mem_of_getElem? hk)) (x := n) (by rw [hr]; simp)
    rw [set_get, set_get]
    by_cases e : b = n
    · subst e; rw [if_pos ⟨rfl, hg⟩, if_pos ⟨rfl, hb⟩]
    · rw [if_neg (fun q => e q.1.symm), if_neg (fun q => e q.1.symm)]; exact h.pre b hb
  len := by rw [List.length_set, List.length_set]; exact h.len
  ok := fun r2 hr2 => by
    refine Res.ok_len (List.length_set ..) ?_
    obtain ⟨j, hj, e⟩ := List.mem_iff_getElem.1 hr2
    simp only [List.length_set] at hj
    rw [List.getElem_set] at e
    split at e
    · rw [← e]; exact ho
    · rename_i hne
      subst e
      obtain ⟨hk1, hk2⟩ := List.getElem?_eq_some_iff.1 hk
      have h1 := h.ok _ (List.getElem_mem hj)
      refine Res.ok_mono h1 fun y hy => ?_
      rw [set_get, if_neg]
      rintro ⟨rfl, _⟩
      have hp := List.pairwise_iff_getElem.1 h.apart
      rcases Nat.lt_or_ge k j with hkj | hkj
      · exact hp k j hk1 hj hkj n (by rw [hk2, hr]; simp) hy
      · exact hp j k hj hk1 (by omega) n hy (by rw [hk2, hr]; simp)
  apart := pairwise_set h.apart hk (by rw [hr, hn]; exact fun _ h => h)
theorem Owns.getF {H G : Heap} {rs : List Res} (h : Owns H G rs) {k n : Nat} {S : List Nat} {b : Blk} (hk : rs[k]? = some (.fblk S n b)) : G[n]? = some b ∧ (n < H.length → n ∈ S) :=
  let x := h.ok _ (List.mem_of_getElem? hk); ⟨x.2, x.1⟩
theorem Owns.get {H G : Heap} {rs : List Res} (h : Owns H G rs) {k n : Nat} {b : Blk} (hk : rs[k]? = some (.blk n b)) : G[n]? = some b ∧ H.length ≤ n :=
  let x := h.ok _ (List.mem_of_getElem? hk); ⟨x.2, x.1⟩
theorem Owns.out {H G : Heap} {rs : List Res} (h : Owns H G rs) : G.take H.length = H := by
  apply List.ext_getElem?
  intro i
  rw [List.getElem?_take]
  split
  · rename_i hi; exact h.pre i hi
  · rename_i hi; rw [List.getElem?_eq_none (by omega)]

/-- The temps that are known at a place; the rest is anything. -/
def hav (l : List (Nat × V)) (J : Nat → V) : Nat → V := l.foldr (fun p f => upd f p.1 p.2) J
def Holds (T : Nat → V) : List (Nat × V) → Prop
  | [] => True
  | (d, v) :: l => T d = v ∧ Holds T l
theorem upd_self {T : Nat → V} {d : Nat} {v : V} (h : T d = v) : upd T d v = T := by
  funext i
  unfold upd
  split
  · rename_i e; rw [e, h]
  · rfl
theorem hav_self {T : Nat → V} : ∀ {l : List (Nat × V)}, Holds T l → hav l T = T
  | [], _ => rfl
  | (d, v) :: l, h => by
    show upd (hav l T) d v = T
    rw [hav_self h.2]
    exact upd_self h.1
theorem bc {p : Prop} {b : Bool} (h1 : b = true → p) (h2 : b = false → p) : p := by cases b; exact h2 rfl; exact h1 rfl
theorem St.hav {T : Nat → V} {G : Heap} (l : List (Nat × V)) (h : Holds T l) : (⟨T, G⟩ : St) = ⟨K.hav l T, G⟩ := by rw [hav_self h]
theorem sh {T : Nat → V} {G : Heap} {l : List (Nat × V)} (h : Holds T l := by repeat (first | exact trivial | refine ⟨rfl, ?_⟩)) : (⟨T, G⟩ : St) = ⟨K.hav l T, G⟩ := St.hav l h

/-- A loop of the printed functions: what it gives after some number of rounds. -/
def loopN {σ ρ : Type} (F : σ → Option (σ ⊕ ρ)) : Nat → σ → Option ρ
  | 0, _ => none
  | n + 1, s => match F s with
    | some (.inl s') => loopN F n s'
    | some (.inr r) => some r
    | none => none
theorem loopN_le {σ ρ : Type} {F : σ → Option (σ ⊕ ρ)} : ∀ {n m : Nat}, n ≤ m → ∀ {s : σ} {r : ρ}, loopN F n s = some r → loopN F m s = some r
  | 0, m, _, s, r, h => by simp [loopN] at h
  | n + 1, 0, hnm, s, r, h => by omega
  | n + 1, m + 1, hnm, s, r, h => by
    simp only [loopN] at h ⊢
    split at h
    · exact loopN_le (by omega) h
    · exact h
    · cases h
open Classical in
noncomputable def loopO {σ ρ : Type} (F : σ → Option (σ ⊕ ρ)) (s : σ) : Option ρ :=
  if h : ∃ n r, loopN F n s = some r then some (Classical.choose (Classical.choose_spec h)) else none
theorem loopO_of {σ ρ : Type} {F : σ → Option (σ ⊕ ρ)} {n : Nat} {s : σ} {r : ρ} (h : loopN F n s = some r) : loopO F s = some r := by
  have hx : ∃ n r, loopN F n s = some r := ⟨n, r, h⟩
  unfold loopO
  rw [dif_pos hx]
  have h1 := Classical.choose_spec (Classical.choose_spec hx)
  have h2 := loopN_le (Nat.le_max_left n (Classical.choose hx)) h
  have h3 := loopN_le (Nat.le_max_right n (Classical.choose hx)) h1
  rw [← h3, h2]
theorem loopO_to {σ ρ : Type} {F : σ → Option (σ ⊕ ρ)} {s : σ} {r : ρ} (h : loopO F s = some r) : ∃ n, loopN F n s = some r := by
  unfold loopO at h
  split at h
  · rename_i hx
    simp only [Option.some.injEq] at h
    exact ⟨_, h ▸ Classical.choose_spec (Classical.choose_spec hx)⟩
  · cases h
/-- A loop is one round and the rest. -/
theorem loopO_eq {σ ρ : Type} (F : σ → Option (σ ⊕ ρ)) (s : σ) : loopO F s = (F s).bind fun x => match x with | .inl s' => loopO F s' | .inr r => some r := by
  cases h : F s with
  | none =>
    simp only [Option.bind_none]
    cases hl : loopO F s with
    | none => rfl
    | some r =>
      obtain ⟨n, hn⟩ := loopO_to hl
      cases n with
      | zero => simp [loopN] at hn
      | succ n => simp [loopN, h] at hn
  | some x =>
    simp only [Option.bind_some]
    cases x with
    | inr r => exact loopO_of (n := 1) (by simp [loopN, h])
    | inl s' =>
      simp only []
      cases hl : loopO F s' with
      | some r =>
        obtain ⟨n, hn⟩ := loopO_to hl
        exact loopO_of (n := n + 1) (by simp [loopN, h, hn])
      | none =>
        cases hl2 : loopO F s with
        | none => rfl
        | some r =>
          obtain ⟨n, hn⟩ := loopO_to hl2
          cases n with
          | zero => simp [loopN] at hn
          | succ n =>
            simp only [loopN, h] at hn
            rw [loopO_of hn] at hl
            cases hl

section
variable {P : Program} {h : Hints} {fk n base : Nat} {lk : Lk} {c : Cx} {ops : Array Oper} {S : St} {Q : X → St → Prop}

theorem wpL_loopO {p : Code} {σ ρ : Type} {F : σ → Option (σ ⊕ ρ)} {r : ρ} (Rel : σ → St → Prop) {s : σ} (hl : loopO F s = some r) (h0 : Rel s S)
    (step : ∀ s S x, Rel s S → F s = some x → (∀ r', x = .inr r' → r' = r) → wpL c p S (goOn (fun S' => ∃ s', x = .inl s' ∧ Rel s' S') Q)) : wpL c (.loop p) S Q := by
  obtain ⟨m, hm⟩ := loopO_to hl
  clear hl
  refine wpL_loop (fun k S => ∃ s, Rel s S ∧ loopN F k s = some r) m ⟨s, h0, hm⟩ ?_
  rintro k S1 _ ⟨s1, hr, hl⟩
  cases k with
  | zero => simp [loopN] at hl
  | succ k =>
    simp only [loopN] at hl
    split at hl
    · rename_i s2 hs2
      refine wpL_mono (step s1 S1 _ hr hs2 (fun r' e => by cases e)) ?_
      intro x S' hx
      cases x with
      | normal =>
        obtain ⟨s', e, hr'⟩ := hx
        simp only [Sum.inl.injEq] at e
        subst e
        exact ⟨k, Nat.lt_succ_self k, s2, hr', hl⟩
      | exit i => exact hx
      | ret => exact hx
    · rename_i r' hs2
      simp only [Option.some.injEq] at hl
      refine wpL_mono (step s1 S1 _ hr hs2 (fun r'' e => by cases e; exact hl)) ?_
      intro x S' hx
      cases x with
      | normal => obtain ⟨s', e, _⟩ := hx; cases e
      | exit i => exact hx
      | ret => exact hx
    · cases hl

theorem wpL_mid {p q : Code} (M : St → Prop) (h1 : wpL c p S (goOn M Q)) (h2 : ∀ S', M S' → wpL c q S' Q) : wpL c (.seq p q) S Q := by
  rw [wpL_seq]
  refine wpL_mono h1 fun x S' hx => ?_
  cases x with
  | normal => exact h2 S' hx
  | exit i => exact hx
  | ret => exact hx
theorem lsq {p q : Code} (h1 : wpL c p S (goOn (fun S' => wpL c q S' Q) Q)) : wpL c (.seq p q) S Q := by rw [wpL_seq]; exact h1
theorem lrg {id : Nat} {l : List Oper} (hq : wpR (cxL P h fk n base lk) l.toArray (l.map fun o => (false, false, o)) S (Q .normal)) : wpL (cxL P h fk n base lk) (.region id l.toArray false) S Q := by
  rw [wpL_region ⟨rfl, rfl⟩]; exact hq
def blkQ (id : Nat) (Q : X → St → Prop) : X → St → Prop := fun x S' => match x with | .exit i => if i = id then Q .normal S' else Q (.exit i) S' | x => Q x S'
theorem lbl {id : Nat} {p : Code} (h1 : wpL c p S (blkQ id Q)) : wpL c (.block id p) S Q := by
  rw [wpL_block]
  refine wpL_mono h1 fun x S' hx => ?_
  cases x <;> exact hx
theorem bn {id : Nat} (h : Q .normal S) : blkQ id Q .normal S := h
theorem be {id : Nat} (h : Q .normal S) : blkQ id Q (.exit id) S := by unfold blkQ; simp only [if_true]; exact h
theorem bo {id i : Nat} (hi : (i == id) = false := by rfl) (h : Q (.exit i) S) : blkQ id Q (.exit i) S := by
  unfold blkQ
  simp only [beq_eq_false_iff_ne, ne_eq] at hi
  simp only [hi, if_false]
  exact h
theorem br {id : Nat} (h : Q .ret S) : blkQ id Q .ret S := h
theorem gn {k : St → Prop} (h : k S) : goOn k Q .normal S := h
theorem ge {k : St → Prop} {i : Nat} (h : Q (.exit i) S) : goOn k Q (.exit i) S := h
theorem gr {k : St → Prop} (h : Q .ret S) : goOn k Q .ret S := h
theorem bs {α β : Type} {x : Option α} {f : α → Option β} {r : β} (h : x.bind f = some r) : ∃ v, x = some v ∧ f v = some r := Option.bind_eq_some_iff.1 h
theorem bk {α β : Type} {x : Option α} {f : α → Option β} {r : β} {P : Prop} (h : x.bind f = some r) (k : ∀ v, x = some v → f v = some r → P) : P := by
  obtain ⟨v, h1, h2⟩ := bs h
  exact k v h1 h2
theorem ct {α : Type} {b : Bool} {x y z : α} (hb : b = true) (h : (bif b then x else y) = z) : x = z := by subst hb; exact h
theorem cf {α : Type} {b : Bool} {x y z : α} (hb : b = false) (h : (bif b then x else y) = z) : y = z := by subst hb; exact h
theorem lx {σ ρ : Type} {x : σ ⊕ ρ} {r : ρ} {y : Option ρ} (hx : ∀ r', x = .inr r' → r' = r) (h : y.map Sum.inr = some x) : y = some r := by
  rw [Option.map_eq_some_iff] at h
  obtain ⟨r', h1, h2⟩ := h
  rw [h1, hx r' h2.symm]
theorem lcd {y : Operand} {p q : Code} {b : Bool} (h1 : b = true → wpL c p S Q) (h2 : b = false → wpL c q S Q) (hy : ev S.T y = some (.bool b) := by rfl) : wpL c (.cond y p q) S Q := by
  rw [wpL_cond, hy, wpO_some, wpIf_bool]
  cases b with
  | true => exact h1 rfl
  | false => exact h2 rfl
theorem lck {y : Operand} {p q : Code} {b : Bool} {α : Type} {x1 x2 z : α} (hk : (bif b then x1 else x2) = z) (h1 : x1 = z → wpL c p S Q) (h2 : x2 = z → wpL c q S Q) (hy : ev S.T y = some (.bool b) := by rfl) : wpL c (.cond y p q) S Q := lcd (fun hb => h1 (ct hb hk)) (fun hb => h2 (cf hb hk)) hy
theorem lsk (h : Q .normal S) : wpL c .skip S Q := by rw [wpL_skip]; exact h
theorem lex {id : Nat} (h : Q (.exit id) S) : wpL c (.exit id) S Q := by rw [wpL_exit]; exact h
theorem lrt (h : Q .ret S) : wpL c .ret S Q := by rw [wpL_ret]; exact h
theorem wpR_mid {l1 l2 : List (Bool × Bool × Oper)} {Q : St → Prop} (M : St → Prop) (h1 : wpR c ops l1 S M) (h2 : ∀ S', M S' → wpR c ops l2 S' Q) : wpR c ops (l1 ++ l2) S Q := by
  obtain ⟨S1, h3, h4⟩ := h1
  obtain ⟨S2, h5, h6⟩ := h2 S1 h4
  refine ⟨S2, ?_, h6⟩
  clear h2 h4 h6
  induction l1 generalizing S with
  | nil => simp only [opsR, Option.some.injEq] at h3; subst h3; exact h5
  | cons x l1 ih =>
    obtain ⟨s, k, o⟩ := x
    simp only [opsR, List.cons_append, Option.bind_eq_some_iff] at h3 ⊢
    obtain ⟨S3, h7, h8⟩ := h3
    exact ⟨S3, h7, ih h8⟩

section steps
variable {s kk : Bool} {d : Nat} {ty : TypeId} {pos : String} {aft : Array Edge} {l : List (Bool × Bool × Oper)} {Q : St → Prop} {T : Nat → V} {G G' H : Heap} {rs : List Res} {op : Op}

/-- An operation whose value is known. -/
theorem pV {v : V} (hv : opV ((cxL P h fk n base lk).care s kk) op ⟨T, G⟩ = some (v, G')) (hd : Nat.blt d n = true) (k : wpR (cxL P h fk n base lk) ops l ⟨upd T d v, G'⟩ Q) :
    wpR (cxL P h fk n base lk) ops ((s, kk, ⟨some d, op, ty, pos, aft, none⟩) :: l) ⟨T, G⟩ Q := by
  rw [wpR_some]
  exact ⟨Nat.le_of_ble_eq_true hd, v, G', hv, k⟩
theorem pV0 {v : V} (hv : opV ((cxL P h fk n base lk).care s kk) op ⟨T, G⟩ = some (v, G')) (k : wpR (cxL P h fk n base lk) ops l ⟨T, G'⟩ Q) :
    wpR (cxL P h fk n base lk) ops ((s, kk, ⟨none, op, ty, pos, aft, none⟩) :: l) ⟨T, G⟩ Q := by
  rw [wpR_none]
  exact ⟨v, G', hv, k⟩
theorem pE (k : Q ⟨T, G⟩) : wpR c ops [] ⟨T, G⟩ Q := by rw [wpR_nil]; exact k
theorem pM {x : Operand} (v : V) (k : wpR (cxL P h fk n base lk) ops l ⟨upd T d v, G⟩ Q) (h1 : ev T x = some v := by rfl) (hd : Nat.blt d n = true := by rfl) :
    wpR (cxL P h fk n base lk) ops ((s, kk, ⟨some d, .move x, ty, pos, aft, none⟩) :: l) ⟨T, G⟩ Q := pV (by rw [opV_move]; simp only [h1, Option.map_some]) hd k
theorem pA {x : Operand} (v : V) (k : wpR (cxL P h fk n base lk) ops l ⟨upd T d v, G⟩ Q) (h1 : ev T x = some v := by rfl) (hd : Nat.blt d n = true := by rfl) :
    wpR (cxL P h fk n base lk) ops ((s, kk, ⟨some d, .assign x, ty, pos, aft, none⟩) :: l) ⟨T, G⟩ Q := pV (by rw [opV_assign]; simp only [h1, Option.map_some]) hd k
theorem pB {bo : BinOp} {t t2 : TypeId} {x y : Operand} {a b v : V} (k : wpR (cxL P h fk n base lk) ops l ⟨upd T d v, G⟩ Q) (h1 : ev T x = some a := by rfl) (h2 : ev T y = some b := by rfl) (h3 : binK P bo t a b = some v := by rfl) (hd : Nat.blt d n = true := by rfl) :
    wpR (cxL P h fk n base lk) ops ((s, kk, ⟨some d, .binOp bo t x y t2, ty, pos, aft, none⟩) :: l) ⟨T, G⟩ Q := by
  refine pV ?_ hd k
  rw [opV_binOp]
  simp only [h1, h2, Option.bind_some]
  show (binK P bo t a b).map _ = _
  rw [h3]; rfl
theorem pBi {bo : BinOp} {t t2 : TypeId} {x y : Operand} {kd : IntKind} {a b : Int} {v : V} (k : wpR (cxL P h fk n base lk) ops l ⟨upd T d v, G⟩ Q) (h1 : ev T x = some (.int kd a) := by rfl) (h2 : ev T y = some (.int kd b) := by rfl) (h3 : intOp bo kd a b = some v := by rfl) (hd : Nat.blt d n = true := by rfl) :
    wpR (cxL P h fk n base lk) ops ((s, kk, ⟨some d, .binOp bo t x y t2, ty, pos, aft, none⟩) :: l) ⟨T, G⟩ Q := pB k h1 h2 ((if_pos rfl).trans h3) hd
theorem pU {uo : UnOp} {t : TypeId} {x : Operand} {a v : V} (k : wpR (cxL P h fk n base lk) ops l ⟨upd T d v, G⟩ Q) (h1 : ev T x = some a := by rfl) (h3 : unK uo a = some v := by rfl) (hd : Nat.blt d n = true := by rfl) :
    wpR (cxL P h fk n base lk) ops ((s, kk, ⟨some d, .unOp uo t x, ty, pos, aft, none⟩) :: l) ⟨T, G⟩ Q := by
  refine pV ?_ hd k
  rw [opV_unOp]
  simp only [h1, h3, Option.bind_some, Option.map_some]
theorem pF {st : TypeId} {x : Operand} {f off : Nat} {a v : V} (hf : fieldOff P st f = some off) (k : wpR (cxL P h fk n base lk) ops l ⟨upd T d v, G⟩ Q) (h1 : ev T x = some a := by rfl) (h3 : offP a off = some v := by rfl) (hd : Nat.blt d n = true := by rfl) :
    wpR (cxL P h fk n base lk) ops ((s, kk, ⟨some d, .fieldAddr st x f, ty, pos, aft, none⟩) :: l) ⟨T, G⟩ Q := by
  refine pV ?_ hd k
  rw [opV_fieldAddr]
  show (fieldOff P st f).bind _ = _
  simp only [hf, h1, h3, Option.bind_some, Option.map_some]
theorem pLen {x : Operand} {t : TypeId} {b : Bool} {a : V} {m : Nat} (ht : strT P t = some b) (k : wpR (cxL P h fk n base lk) ops l ⟨upd T d (.int .i64 m), G⟩ Q) (h1 : ev T x = some a := by rfl) (h3 : lenV a b = some m := by rfl) (hd : Nat.blt d n = true := by rfl) :
    wpR (cxL P h fk n base lk) ops ((s, kk, ⟨some d, .call ⟨.builtin .len, #[x], #[t]⟩, ty, pos, aft, none⟩) :: l) ⟨T, G⟩ Q := by
  refine pV ?_ hd k
  rw [opV_len]
  show (strT P t).bind _ = _
  simp only [ht, h1, h3, Option.bind_some, Option.map_some]
/-- A load of one cell of an own block. -/
theorem pLo {t : TypeId} {x : Operand} {b off sz : Nat} {cs : List V} (hO : Owns H G rs) (j : Nat) (v : V) (ha : aggT P t = some false) (k : wpR (cxL P h fk n base lk) ops l ⟨upd T d v, G⟩ Q) (h1 : ev T x = some (.ptr b off) := by rfl) (hj : rs[j]? = some (.blk b (.cells sz cs)) := by rfl) (h2 : cs[off]? = some v := by rfl) (hd : Nat.blt d n = true := by rfl) :
    wpR (cxL P h fk n base lk) ops ((s, kk, ⟨some d, .load t x, ty, pos, aft, none⟩) :: l) ⟨T, G⟩ Q := by
  refine pV ?_ hd k
  rw [opV_load]
  simp only [h1, Option.bind_some, loadK, (hO.get hj).1]
  show (readCells P t cs off).map _ = _
  unfold readCells
  simp only [ha, h2, Option.map_some]
/-- A load of a whole struct of an own block. -/
theorem pLs {t : TypeId} {x : Operand} {b off sz m : Nat} {cs : List V} (hO : Owns H G rs) (j : Nat) (cs' : List V) (ha : aggT P t = some true) (hz : szOf P t = some m) (k : wpR (cxL P h fk n base lk) ops l ⟨upd T d (.agg cs'), G⟩ Q) (h1 : ev T x = some (.ptr b off) := by rfl) (hj : rs[j]? = some (.blk b (.cells sz cs)) := by rfl) (h2 : Nat.ble (off + m) cs.length = true := by rfl) (h3 : (cs.drop off).take m = cs' := by rfl) (hd : Nat.blt d n = true := by rfl) :
    wpR (cxL P h fk n base lk) ops ((s, kk, ⟨some d, .load t x, ty, pos, aft, none⟩) :: l) ⟨T, G⟩ Q := by
  subst h3
  refine pV ?_ hd k
  rw [opV_load]
  simp only [h1, Option.bind_some, loadK, (hO.get hj).1]
  show (readCells P t cs off).map _ = _
  unfold readCells
  simp only [ha, hz, Option.bind_some, if_pos (Nat.le_of_ble_eq_true h2), Option.map_some]
theorem pLg {t : TypeId} {x : Operand} {b off sz m : Nat} {cs : List V} (cs' : List V) (hO : Owns H G rs) (hb : H[b]? = some (.cells sz cs)) (ha : aggT P t = some true) (hz : szOf P t = some m) (k : wpR (cxL P h fk n base lk) ops l ⟨upd T d (.agg cs'), G⟩ Q) (h1 : ev T x = some (.ptr b off) := by rfl) (h2 : Nat.ble (off + m) cs.length = true := by rfl) (h3 : (cs.drop off).take m = cs' := by rfl) (hd : Nat.blt d n = true := by rfl) :
    wpR (cxL P h fk n base lk) ops ((s, kk, ⟨some d, .load t x, ty, pos, aft, none⟩) :: l) ⟨T, G⟩ Q := by
  subst h3
  refine pV ?_ hd k
  rw [opV_load]
  have hg : G[b]? = some (.cells sz cs) := by rw [hO.pre b (List.getElem?_eq_some_iff.1 hb).1]; exact hb
  simp only [h1, Option.bind_some, loadK, hg]
  show (readCells P t cs off).map _ = _
  unfold readCells
  simp only [ha, hz, Option.bind_some, if_pos (Nat.le_of_ble_eq_true h2), Option.map_some]
/-- A load through a block of somebody else's. -/
theorem pLf {t : TypeId} {x : Operand} {b off sz : Nat} {cs : List V} (v : V) (hO : Owns H G rs) (hb : H[b]? = some (.cells sz cs)) (ha : aggT P t = some false) (k : wpR (cxL P h fk n base lk) ops l ⟨upd T d v, G⟩ Q) (h1 : ev T x = some (.ptr b off) := by rfl) (h2 : cs[off]? = some v := by rfl) (hd : Nat.blt d n = true := by rfl) :
    wpR (cxL P h fk n base lk) ops ((s, kk, ⟨some d, .load t x, ty, pos, aft, none⟩) :: l) ⟨T, G⟩ Q := by
  refine pV ?_ hd k
  rw [opV_load]
  have hg : G[b]? = some (.cells sz cs) := by rw [hO.pre b (List.getElem?_eq_some_iff.1 hb).1]; exact hb
  simp only [h1, Option.bind_some, loadK, hg]
  show (readCells P t cs off).map _ = _
  unfold readCells
  simp only [ha, h2, Option.map_some]
/-- A load through a list. -/
theorem pLp {t : TypeId} {x : Operand} {lv off : Nat} {cs : List V} (v : V) (hr : readCells P t cs off = some v) (k : wpR (cxL P h fk n base lk) ops l ⟨upd T d v, G⟩ Q) (h1 : ev T x = some (.lp lv cs off) := by rfl) (hd : Nat.blt d n = true := by rfl) :
    wpR (cxL P h fk n base lk) ops ((s, kk, ⟨some d, .load t x, ty, pos, aft, none⟩) :: l) ⟨T, G⟩ Q := by
  refine pV ?_ hd k
  rw [opV_load]
  simp only [h1, Option.bind_some, loadK]
  show (readCells P t cs off).map _ = _
  rw [hr]; rfl
/-- A load through a block that is known otherwise. -/
theorem pLh {t : TypeId} {x : Operand} {b off sz : Nat} {cs : List V} (v : V) (hb : G[b]? = some (.cells sz cs)) (hr : readCells P t cs off = some v) (k : wpR (cxL P h fk n base lk) ops l ⟨upd T d v, G⟩ Q) (h1 : ev T x = some (.ptr b off) := by rfl) (hd : Nat.blt d n = true := by rfl) :
    wpR (cxL P h fk n base lk) ops ((s, kk, ⟨some d, .load t x, ty, pos, aft, none⟩) :: l) ⟨T, G⟩ Q := by
  refine pV ?_ hd k
  rw [opV_load]
  simp only [h1, Option.bind_some, loadK, hb]
  show (readCells P t cs off).map _ = _
  rw [hr]; rfl
theorem pBox {t : TypeId} {x : Operand} {m : Nat} {v : V} {cs : List V} (hO : Owns H G rs) (hz : szOf P t = some m) (k : ∀ b G', Owns H G' (.blk b (.cells m cs) :: rs) → wpR (cxL P h fk n base lk) ops l ⟨upd T d (.ptr b 0), G'⟩ Q) (h1 : ev T x = some v := by rfl) (h2 : v.cellsOf = cs := by rfl) (h3 : cs.all V.isCell = true := by rfl) (hd : Nat.blt d n = true := by rfl) :
    wpR (cxL P h fk n base lk) ops ((s, kk, ⟨some d, .box t x, ty, pos, aft, none⟩) :: l) ⟨T, G⟩ Q := by
  refine pV ?_ hd (k _ _ (hO.alloc (.cells m cs)))
  rw [opV_box]
  show (szOf P t).bind _ = _
  simp only [hz, h1, h2, h3, Option.bind_some, if_true]
theorem pNew {t : TypeId} {m : Nat} {z : List V} (hO : Owns H G rs) (hz : szOf P t = some m) (h1 : zeroOf P t = some z) (k : ∀ b G', Owns H G' (.blk b (.cells m z) :: rs) → wpR (cxL P h fk n base lk) ops l ⟨upd T d (.ptr b 0), G'⟩ Q) (hd : Nat.blt d n = true := by rfl) :
    wpR (cxL P h fk n base lk) ops ((s, kk, ⟨some d, .alloc t, ty, pos, aft, none⟩) :: l) ⟨T, G⟩ Q := by
  refine pV ?_ hd (k _ _ (hO.alloc (.cells m z)))
  rw [opV_alloc]
  show (szOf P t).bind _ = _
  simp only [hz]
  show (zeroOf P t).bind _ = _
  simp only [h1, Option.bind_some]
/-- A store into an own block. -/
theorem pSt {t : TypeId} {x y : Operand} {b off sz m : Nat} {cs xs : List V} {v : V} (hO : Owns H G rs) (j : Nat) (hz : szOf P t = some m) (hb : base = H.length) (k : ∀ G', Owns H G' (rs.set j (.blk b (.cells sz (splice cs off xs)))) → wpR (cxL P h fk n base lk) ops l ⟨T, G'⟩ Q) (h1 : ev T x = some (.ptr b off) := by rfl) (hj : rs[j]? = some (.blk b (.cells sz cs)) := by rfl) (h2 : ev T y = some v := by rfl) (h3 : v.cellsOf = xs := by rfl) (h4 : xs.length = m := by rfl) (h5 : Nat.ble (off + m) cs.length = true := by rfl) (h6 : xs.all V.isCell = true := by rfl) :
    wpR (cxL P h fk n base lk) ops ((s, kk, ⟨none, .store t x y, ty, pos, aft, none⟩) :: l) ⟨T, G⟩ Q := by
  subst hb h3 h4
  obtain ⟨hg, hbb⟩ := hO.get hj
  have hlt : b < G.length := (List.getElem?_eq_some_iff.1 hg).1
  refine pV0 (v := undefV) ?_ (k _ (hO.set (x := .cells sz (splice cs off v.cellsOf)) hj rfl rfl ⟨hbb, by rw [set_get, if_pos ⟨rfl, hlt⟩]⟩))
  rw [opV_store]
  simp only [h1, h2, Option.bind_some, storeK]
  have hm : ((cxL P h fk n H.length lk).care s kk).mayWrite b = true := by
    unfold Cx.mayWrite
    simp only [Bool.or_eq_true, decide_eq_true_eq]
    exact .inl hbb
  have hnb : ¬ b < ((cxL P h fk n H.length lk).care s kk).base := Nat.not_lt.2 hbb
  rw [if_pos hm, if_neg hnb]
  simp only [Option.bind_some, hg]
  rw [if_pos ⟨hz, Nat.le_of_ble_eq_true h5, h6⟩]
  rfl
theorem pPt {x y z : Operand} {b : Bool} (hb : b = true) (v : V) (k : wpR (cxL P h fk n base lk) ops l ⟨upd T d v, G⟩ Q) (h1 : ev T x = some (.bool b) := by rfl) (h2 : ev T y = some v := by rfl) (hd : Nat.blt d n = true := by rfl) :
    wpR (cxL P h fk n base lk) ops ((s, kk, ⟨some d, .pick x y z, ty, pos, aft, none⟩) :: l) ⟨T, G⟩ Q := by subst hb; exact pV (by rw [opV_pick]; simp only [h1, h2, Option.bind_some, pickV_true, Option.map_some]) hd k
theorem pPf {x y z : Operand} {b : Bool} (hb : b = false) (v : V) (k : wpR (cxL P h fk n base lk) ops l ⟨upd T d v, G⟩ Q) (h1 : ev T x = some (.bool b) := by rfl) (h2 : ev T z = some v := by rfl) (hd : Nat.blt d n = true := by rfl) :
    wpR (cxL P h fk n base lk) ops ((s, kk, ⟨some d, .pick x y z, ty, pos, aft, none⟩) :: l) ⟨T, G⟩ Q := by subst hb; exact pV (by rw [opV_pick]; simp only [h1, h2, Option.bind_some, pickV_false, Option.map_some]) hd k
/-- A guarded operation that is wanted, or is not. -/
theorem pGy {dst : Option Nat} {j t : Nat} {w b : Bool} (hb : b = w) (k : wpR c ops ((s, kk, ⟨dst, op, ty, pos, aft, none⟩) :: l) ⟨T, G⟩ Q) (hj : (ops[j]?).bind (·.dst) = some t := by rfl) (ht : T t = .bool b := by rfl) : wpR c ops ((s, kk, ⟨dst, op, ty, pos, aft, some (j, w)⟩) :: l) ⟨T, G⟩ Q := by
  subst hb
  obtain ⟨S', h1, h2⟩ := k
  refine ⟨S', ?_, h2⟩
  simp only [opsR] at h1 ⊢
  rw [← h1]
  have : gstepK (c.care s kk) ops ⟨dst, op, ty, pos, aft, some (j, b)⟩ ⟨T, G⟩ = gstepK (c.care s kk) ops ⟨dst, op, ty, pos, aft, none⟩ ⟨T, G⟩ := by
    unfold gstepK wantedK
    simp only [hj, ht, beq_self_eq_true, Option.bind_some, if_true]
    rfl
  rw [this]
theorem pGn {j t : Nat} {w b : Bool} (hb : b = !w) (k : wpR (cxL P h fk n base lk) ops l ⟨upd T d undefV, G⟩ Q) (hj : (ops[j]?).bind (·.dst) = some t := by rfl) (ht : T t = .bool b := by rfl) (hd : Nat.blt d n = true := by rfl) :
    wpR (cxL P h fk n base lk) ops ((s, kk, ⟨some d, op, ty, pos, aft, some (j, w)⟩) :: l) ⟨T, G⟩ Q := by
  subst hb
  rw [wpR_guard]
  refine ⟨Nat.le_of_ble_eq_true hd, false, ?_, ?_⟩
  · unfold guardV
    simp only [hj, Option.bind_some, ht]
    cases w <;> rfl
  · simp only [Bool.false_eq_true, if_false]; exact k
theorem pGu {j t : Nat} {w : Bool} (k : wpR (cxL P h fk n base lk) ops l ⟨upd T d undefV, G⟩ Q) (hj : (ops[j]?).bind (·.dst) = some t := by rfl) (ht : T t = undefV := by rfl) (hd : Nat.blt d n = true := by rfl) :
    wpR (cxL P h fk n base lk) ops ((s, kk, ⟨some d, op, ty, pos, aft, some (j, w)⟩) :: l) ⟨T, G⟩ Q := by
  rw [wpR_guard]
  refine ⟨Nat.le_of_ble_eq_true hd, false, ?_, ?_⟩
  · unfold guardV
    simp only [hj, Option.bind_some, ht, undefV]
  · simp only [Bool.false_eq_true, if_false]; exact k
theorem pFn {f : FuncId} {caps : Array Operand} {vs : List V} (k : wpR (cxL P h fk n base lk) ops l ⟨upd T d (.fn f vs), G⟩ Q) (h1 : evL T caps.toList = some vs := by rfl) (hd : Nat.blt d n = true := by rfl) :
    wpR (cxL P h fk n base lk) ops ((s, kk, ⟨some d, .makeFunc (.func f) #[] caps, ty, pos, aft, none⟩) :: l) ⟨T, G⟩ Q := by
  refine pV ?_ hd k
  rw [opV_makeFunc]
  simp only [h1, Option.bind_some]
/-- A call. -/
theorem pCall {f : Operand} {args : Array Operand} {ats : Array TypeId} {g : FuncId} {caps vs vs' : List V} {M : List Nat} {r : V} (hr : ∀ L, runL P h g vs' G (lk ++ [L]) = some (r, G')) (k : wpR (cxL P h fk n base lk) ops l ⟨upd T d r, G'⟩ Q) (h1 : ev T f = some (.fn g caps) := by rfl) (h2 : evL T args.toList = some vs := by rfl) (h3 : lendArgs ((cxL P h fk n base lk).care s kk) (h.modes g) G (vs ++ caps) = some (vs', M, G) := by rfl) (hd : Nat.blt d n = true := by rfl) :
    wpR (cxL P h fk n base lk) ops ((s, kk, ⟨some d, .call ⟨.value f, args, ats⟩, ty, pos, aft, none⟩) :: l) ⟨T, G⟩ Q := by
  refine pV ?_ hd k
  rw [opV_call]
  simp only [h1, h2, Option.bind_some, fnOf]
  show (lendArgs ((cxL P h fk n base lk).care s kk) (h.modes g) G (vs ++ caps)).bind _ = _
  rw [h3]
  exact hr _
/-- A field's place, then what lies there. -/
theorem pFL {st t : TypeId} {x y : Operand} {f off o2 b sz d2 : Nat} {a a' : V} {cs : List V} {s2 k2 : Bool} {ty2 : TypeId} {pos2 : String} {aft2 : Array Edge} (hf : fieldOff P st f = some off) (hO : Owns H G rs) (j : Nat) (v : V) (ha : aggT P t = some false) (k : wpR (cxL P h fk n base lk) ops l ⟨upd (upd T d a') d2 v, G⟩ Q) (h1 : ev T x = some a := by rfl) (h3 : offP a off = some a' := by rfl) (hd : Nat.blt d n = true := by rfl) (h4 : ev (upd T d a') y = some (.ptr b o2) := by rfl) (hj : rs[j]? = some (.blk b (.cells sz cs)) := by rfl) (h2 : cs[o2]? = some v := by rfl) (hd2 : Nat.blt d2 n = true := by rfl) :
    wpR (cxL P h fk n base lk) ops ((s, kk, ⟨some d, .fieldAddr st x f, ty, pos, aft, none⟩) :: (s2, k2, ⟨some d2, .load t y, ty2, pos2, aft2, none⟩) :: l) ⟨T, G⟩ Q := pF hf (pLo hO j v ha k h4 hj h2 hd2) h1 h3 hd
end steps

/-- The end of a call. -/
def Fin (P : Program) (h : Hints) (k base d : Nat) (rs : List ResultVar) (out : V × Heap) (x : X) (S : St) : Prop :=
  (x = .normal ∨ x = .ret) ∧ ((resultsK P S.H S.T rs).bind fun vs => leaveK h k base d (oneOf vs) S.H) = some out
theorem run_start {fn : Func} {body : Code} {k : FuncId} (hfn : P.funcs[k]? = some fn) (hb : fn.body = some body) {m : Nat} (hn : fn.ntmps = m) {args : List V} {H : Heap} {rs : Array ResultVar} (hrs : fn.results = rs) (hlen : Nat.ble args.length m = true) (hname : (fn.name == "runtime.NumGoroutine") = false) {out : V × Heap}
    (hr : Owns H H [] → wpL (cxL P h k m H.length lk) body ⟨argsT args, H⟩ (Fin P h k H.length lk.length rs.toList out)) (hns : nilShape body = none := by rfl) : runL P h k args H lk = some out :=
  run_of_wp hfn hb hn hns (Nat.le_of_ble_eq_true hlen) hname hrs (hr (Owns.nil H))
theorem fin {k d : Nat} {lr : List ResultVar} {x : X} {T : Nat → V} {G H : Heap} {rs : List Res} {vs : List V} {v v' : V} {G2 : Heap} (hO : Owns H G rs) (hg : h.grow k = false) (hx : x = .normal ∨ x = .ret) (h1 : resultsK P G T lr = some vs := by rfl) (h2 : oneOf vs = v := by rfl)
    (h3 : resV (h.thaw k) H.length d depthK (G, []) v = some (v', (G2, []))) (h4 : G2.take H.length = H) : Fin P h k H.length d lr (v', H) x ⟨T, G⟩ := by
  refine ⟨hx, ?_⟩
  simp only [h1, Option.bind_some, h2, leaveK, hg, Bool.false_eq_true, if_false, h3, Option.map_some, h4, List.append_nil]
/-- A plain result. -/
theorem fin0 {k d : Nat} {lr : List ResultVar} {T : Nat → V} {G H : Heap} {rs : List Res} {vs : List V} {v v' : V} (hO : Owns H G rs) (hg : h.grow k = false := by rfl) (h1 : resultsK P G T lr = some vs := by rfl) (h2 : oneOf vs = v := by rfl)
    (h3 : resV (h.thaw k) H.length d depthK (G, []) v = some (v', (G, [])) := by rfl) {x : X} (hx : x = .normal ∨ x = .ret := by first | exact Or.inl rfl | exact Or.inr rfl) : Fin P h k H.length d lr (v', H) x ⟨T, G⟩ := fin hO hg hx h1 h2 h3 hO.out
end

end Go.Proofs.Ytblodpbcinkehaa.K
