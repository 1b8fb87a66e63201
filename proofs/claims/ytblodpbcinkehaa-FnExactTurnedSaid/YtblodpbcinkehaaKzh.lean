/-
  Fresh values: elements that are structs, calls that ask for old locks, results in raw blocks. No conditions.
-/
import Derived.Test.YtblodpbcinkehaaKzg
set_option linter.unusedVariables false
set_option linter.unusedSimpArgs false
namespace Go.Proofs.Ytblodpbcinkehaa.K

section
variable {α β : Type} [GoT α] [GoM α] [GoT β] [GoM β] {lo d n m : Nat} {tr : Heap → List V → List Nat → Prop} {G G' H : Heap} {cs c1 c2 : List V} {F F1 F2 : List Nat} {x : α} {y : β} {v : V} {rs : List Res}
theorem Prom.up (hm : Nat.ble n m = true) (h : Prom lo d n tr G cs F) : Prom lo d m tr G cs F := by
  have hm := Nat.le_of_ble_eq_true hm
  obtain ⟨F', h1, h2, h3⟩ := h
  refine ⟨F', h1, h2, fun X hX k => ?_⟩
  have := h3 X hX (k + (m - n))
  rwa [show k + (m - n) + n = k + m by omega] at this
theorem prom_fl [GoFl α] (x : α) : Prom lo d (GoM.dep α) (fun G => GoM.tr G x) G (GoT.encL 0 x) [] :=
  TrIn.prom ⟨[], .nil, fun _ h => h, GoFl.fl G x⟩ fun b hb => (by cases hb)
theorem Prom.pair (h1 : Prom lo d n (fun G => GoM.tr G x) G c1 F1) (h2 : Prom lo d n (fun G => GoM.tr G y) G c2 F2) (hd : ∀ b ∈ F2, b ∉ F1) : Prom lo d n (fun G => GoM.tr G (x, y)) G (c1 ++ c2) (F1 ++ F2) := by
  obtain ⟨A, a1, a2, a3⟩ := h1
  obtain ⟨B, b1, b2, b3⟩ := h2
  refine ⟨A ++ B, ?_, fun b hb => ?_, fun X hX k => ?_⟩
  · rw [List.nodup_append]
    exact ⟨a1, b1, fun p hp q hq e => by subst e; exact hd p (b2 p hq) (a2 p hp)⟩
  · rcases List.mem_append.1 hb with h | h
    · exact List.mem_append_left _ (a2 b h)
    · exact List.mem_append_right _ (b2 b h)
  · refine Leaves.pair (t1 := fun G => GoM.tr G x) (t2 := fun G => GoM.tr G y) (fun h hg => GoM.frame h hg) (a3 X (fun b hb => hX b (List.mem_append_left _ hb)) k) fun Y hY => b3 Y (fun b hb => ?_) k
    rw [hY b fun h => hd b (b2 b hb) (a2 b h)]
    exact hX b (List.mem_append_right _ hb)
theorem Prom.pairL [GoFl α] (x : α) (hn : Nat.ble (GoM.dep α) n = true) (h2 : Prom lo d n (fun G => GoM.tr G y) G c2 F2) : Prom lo d n (fun G => GoM.tr G (x, y)) G (GoT.encL 0 x ++ c2) F2 :=
  ((prom_fl x).up hn).pair h2 fun _ _ h => by cases h
theorem Prom.pairR [GoFl β] (y : β) (hn : Nat.ble (GoM.dep β) n = true) (h1 : Prom lo d n (fun G => GoM.tr G x) G c1 F1) : Prom lo d n (fun G => GoM.tr G (x, y)) G (c1 ++ GoT.encL 0 y) F1 :=
  (h1.pair ((prom_fl y).up hn) fun _ h => by cases h).wide fun b hb => by simpa using hb
theorem Owns.treeMap {p p' : Heap → Prop} (hO : Owns H G (.tree [] F p :: rs)) (h : ∀ G, p G → p' G) : Owns H G (.tree [] F p' :: rs) where
  pre := hO.pre
  len := hO.len
  ok := fun r hr => by
    rcases List.mem_cons.1 hr with rfl | hr
    · have := hO.ok _ (List.mem_cons_self ..)
      exact ⟨this.1, fun G' hg => h G' (this.2 G' hg)⟩
    · exact hO.ok r (List.mem_cons_of_mem _ hr)
  apart := List.pairwise_cons.2 (List.pairwise_cons.1 hO.apart)
theorem Owns.promM [GoFl β] {ys : List β} {b sz : Nat} (hO : Owns H G (.blk b (.cells sz ((flatL 0) ys)) :: rs)) (hl : ys.length = m) (hd : 0 < d) (hsz : sz = GoT.sz β := by rfl) :
    Owns H G (.tree [] [b] (fun G => Prom H.length d (GoM.dep (List β)) (fun G => GoM.tr G ys) G [.sl b 0 m] [b]) :: rs) := by
  subst hsz hl
  have h2 : 2 ≤ GoM.dep (List β) := by
    show 2 ≤ GoM.dep β + 1
    have : 0 < GoM.dep β := GoFl.pos (α := β)
    omega
  obtain ⟨hgb, hbb⟩ := hO.get (k := 0) rfl
  have hlt := (List.getElem?_eq_some_iff.1 hgb).1
  refine ⟨hO.pre, hO.len, fun r hr => ?_, ?_⟩
  · rcases List.mem_cons.1 hr with rfl | hr
    · refine ⟨fun c hc => ?_, fun G' hg => prom_blk (fun X hX k => ?_) _ h2⟩
      · simp only [List.mem_singleton] at hc
        subst hc
        exact ⟨hlt, fun h => by omega⟩
      · rw [hg b (by simp), hgb] at hX
        have hcl := resL_clean (th := true) (lo := H.length) (d := d) (k := k) (X := (X.1.set b .dead, X.2)) ((flatL 0) ys) (cleanL_up hd Nat.one_pos _ (flat_clean ys)) (flat_cell ys)
        have e0 : ¬ (((flatL 0) ys).length < 0 + ys.length * GoT.sz β) := by rw [flat_len]; omega
        have e1 : (List.drop 0 ((flatL 0) ys)).take (ys.length * GoT.sz β) = (flatL 0) ys := by rw [List.drop_zero]; exact List.take_of_length_le (by rw [flat_len]; exact Nat.le_refl _)
        rw [resV, if_neg (by omega)]
        simp only [hX]
        rw [if_neg e0, e1, hcl]
        simp only [Option.bind_some, if_true]
        rw [if_pos ⟨trivial, by rw [flat_len]⟩]
    · exact hO.ok r (List.mem_cons_of_mem _ hr)
  · have := List.pairwise_cons.1 hO.apart
    exact List.pairwise_cons.2 ⟨fun r hr c hc => this.1 r hr c (by simpa [Res.nums] using hc), this.2⟩
theorem th_fl [GoFl α] {dd : Nat} (x : α) : ThV (GoM.dep α) H dd rs (GoT.encL 0 x) x rs := fun X hO k => by
  obtain ⟨cs', X1, L, F', e, s1, n1, b1, r1⟩ := GoM.res (GoFl.fl X.1 x) .nil H.length dd (fun b hb => by cases hb) k X (fun _ _ => rfl)
  have : X1 = X.1 := List.ext_getElem? fun b => s1 b (by simp)
  subst this
  exact ⟨cs', X.1, L, F', e, hO, n1, b1, r1⟩
/-- A result in a block that holds a struct with mutable lists. -/
theorem resSr {P : Program} {T : Nat → V} {S : List Nat} {t b sz a : Nat} {lr : List ResultVar} {vs : List V} (hO : Owns H G rs) (jb j : Nat) (ha : aggT P t = some true) (hz : szOf P t = some (GoT.sz α)) (h : resultsK P G T lr = some vs) (h1 : T a = .ptr b 0 := by rfl) (hjb : rs[jb]? = some (.blk b (.cells sz cs)) := by rfl) (hj : rs[j]? = some (Tree S F x cs) := by rfl) :
    resultsK P G T (.cell a t :: lr) = some (.agg cs :: vs) := by
  obtain ⟨e1, e2⟩ := tr_cells hO hj
  simp only [resultsK, h1, loadK, (hO.get hjb).1, readCells, ha, hz, Option.bind_some]
  rw [if_pos (by omega), List.drop_zero, ← e1, List.take_length]
  simp only [Option.bind_some, h, Option.map_some]
end
section
variable {α : Type} [GoT α] {H : Heap}
/-- What comes into a list as it is, whether or not elements are given up. -/
theorem embx_int {c : Cx} (kd : IntKind) (x : Int) : embed c H (.int kd x) = some (.int kd x, H) := by
  cases h : c.hints.keep c.fn with
  | false => exact emb_int h kd x
  | true => unfold embed; rw [h]; rfl
theorem embx_bool {c : Cx} (x : Bool) : embed c H (.bool x) = some (.bool x, H) := by
  cases h : c.hints.keep c.fn with
  | false => exact emb_bool h x
  | true => unfold embed; rw [h]; rfl
theorem embx_str {c : Cx} (x : ByteArray) : embed c H (.str x) = some (.str x, H) := by
  cases h : c.hints.keep c.fn with
  | false => exact emb_str h x
  | true => unfold embed; rw [h]; rfl
theorem embx_lit {c : Cx} (xs : List α) : embed c H (.lit 0 xs.length ((flatL 0) xs)) = some (.lit 0 xs.length ((flatL 0) xs), H) := by
  cases h : c.hints.keep c.fn with
  | false => exact emb_lit h xs
  | true => unfold embed; rw [h]; rfl
theorem embx_agg {c : Cx} (x : α) : embed c H (.agg ((GoT.encL 0) x)) = some (.agg ((GoT.encL 0) x), H) := by
  cases h : c.hints.keep c.fn with
  | false => exact emb_agg h x
  | true => unfold embed; rw [h]; rfl
end
section calls
variable {P : Program} {h : Hints} {fk n base : Nat} {lk : Lk} {ops : Array Oper} {s kk : Bool} {d : Nat} {ty : TypeId} {pos : String} {aft : Array Edge} {l : List (Bool × Bool × Oper)} {Q : St → Prop} {T : Nat → V} {G G' H : Heap} {rs : List Res}
variable {α : Type} [GoT α] [GoM α]
theorem pCNL {f : Operand} {args : Array Operand} {ats : Array TypeId} {g : FuncId} {caps vs vs' : List V} {M : List Nat} {xs : List α} (hO : Owns H G rs) (hlo : LkOk lk H.length) (hb : base = H.length) (hr : ∀ L, LkOk (lk ++ [L]) G.length → ∃ v H1, runL P h g vs' G (lk ++ [L]) = some (v, H1) ∧ FreshL G xs v H1)
    (k : ∀ v F G', Owns H G' (Tree [] F xs [v] :: rs) → wpR (cxL P h fk n base lk) ops l ⟨upd T d v, G'⟩ Q) (h1 : ev T f = some (.fn g caps) := by rfl) (h2 : evL T args.toList = some vs := by rfl)
    (h3 : lendArgs ((cxL P h fk n base lk).care s kk) [] G (vs ++ caps) = some (vs', M, G) := by rfl) (hd : Nat.blt d n = true := by rfl) (hm : h.modes g = [] := by rfl) :
    wpR (cxL P h fk n base lk) ops ((s, kk, ⟨some d, .call ⟨.value f, args, ats⟩, ty, pos, aft, none⟩) :: l) ⟨T, G⟩ Q := by
  obtain ⟨v, H1, e, L, F, rfl, hn, hb', ht⟩ := hr (((cxL P h fk n base lk).care s kk).locksFor g M G) (hlo.push hO.len (locks_lt (lendArgs_lt _ _ _ h3) (by show base ≤ _; rw [hb]; exact hO.len)))
  refine pV ?_ hd (k v F _ (hO.fresh hn hb' ht))
  rw [opV_call]
  simp only [h1, h2, Option.bind_some, fnOf]
  show (lendArgs ((cxL P h fk n base lk).care s kk) (h.modes g) G (vs ++ caps)).bind _ = _
  rw [hm, h3]
  exact e
theorem pCNsL {f : Operand} {args : Array Operand} {ats : Array TypeId} {g : FuncId} {caps vs vs' : List V} {M : List Nat} {x : α} (hO : Owns H G rs) (hlo : LkOk lk H.length) (hb : base = H.length) (hr : ∀ L, LkOk (lk ++ [L]) G.length → ∃ v H1, runL P h g vs' G (lk ++ [L]) = some (v, H1) ∧ FreshS G x v H1)
    (k : ∀ cs F G', Owns H G' (Tree [] F x cs :: rs) → wpR (cxL P h fk n base lk) ops l ⟨upd T d (.agg cs), G'⟩ Q) (h1 : ev T f = some (.fn g caps) := by rfl) (h2 : evL T args.toList = some vs := by rfl)
    (h3 : lendArgs ((cxL P h fk n base lk).care s kk) [] G (vs ++ caps) = some (vs', M, G) := by rfl) (hd : Nat.blt d n = true := by rfl) (hm : h.modes g = [] := by rfl) :
    wpR (cxL P h fk n base lk) ops ((s, kk, ⟨some d, .call ⟨.value f, args, ats⟩, ty, pos, aft, none⟩) :: l) ⟨T, G⟩ Q := by
  obtain ⟨v, H1, e, cs, L, F, rfl, rfl, hn, hb', ht⟩ := hr (((cxL P h fk n base lk).care s kk).locksFor g M G) (hlo.push hO.len (locks_lt (lendArgs_lt _ _ _ h3) (by show base ≤ _; rw [hb]; exact hO.len)))
  refine pV ?_ hd (k cs F _ (hO.fresh hn hb' ht))
  rw [opV_call]
  simp only [h1, h2, Option.bind_some, fnOf]
  show (lendArgs ((cxL P h fk n base lk).care s kk) (h.modes g) G (vs ++ caps)).bind _ = _
  rw [hm, h3]
  exact e
end calls

end Go.Proofs.Ytblodpbcinkehaa.K
