/-
  Steps of a run, more: lists that are appended to, struct literals, more operators. No conditions.
-/
import Derived.Test.YtblodpbcinkehaaKs
set_option linter.unusedVariables false
set_option linter.unusedSimpArgs false
namespace Go.Proofs.Ytblodpbcinkehaa.K

/-- A list that began as nil: what was never appended to is empty. -/
def Nz (v : V) : Prop := ∀ m cs, v = .tl m cs → m = 0
theorem Nz.snap {b n : Nat} {cs : List V} : Nz (.snap b n cs) := fun _ _ h => by cases h
theorem Nz.nil : Nz (.tl 0 []) := fun _ _ h => by cases h; rfl
/-- 'append': the longer list, if there is room for it. -/
def appB {α : Type} (by_ : Nat) (xs ys : List α) : Option (List α) := if ys.length = 0 ∨ (xs.length + ys.length) * (by_ + 1) ≤ 70368744177664 then some (xs ++ ys) else none
theorem appB_ok {α : Type} {by_ : Nat} {xs ys : List α} (h : (xs.length + ys.length) * (by_ + 1) ≤ 70368744177664) : appB by_ xs ys = some (xs ++ ys) := if_pos (.inr h)

theorem Owns.addTl {H G : Heap} {rs : List Res} {α : Type} [GoT α] (h : Owns H G rs) (d : Nat) (xs : List α) : Owns H G (.own (.tl xs.length ((flatL 0) xs)) d (GoT.sz α) xs.length ((flatL 0) xs) :: rs) where
  pre := h.pre
  len := h.len
  ok := fun r hr => by
    rcases List.mem_cons.1 hr with rfl | hr
    · exact ⟨flat_len xs, .inl rfl⟩
    · exact h.ok r hr
  apart := List.pairwise_cons.2 ⟨fun r _ x hx => by simp [Res.nums] at hx, h.apart⟩
theorem Owns.swap {H G : Heap} {rs : List Res} (h : Owns H G rs) {k : Nat} {r r' : Res} {x : Blk} (hk : rs[k]? = some r) (hr : r.nums = []) (hn : r'.nums = [G.length]) (ho : r'.ok H (G ++ [x])) : Owns H (G ++ [x]) (rs.set k r') where
  pre := fun b hb => by rw [List.getElem?_append_left (Nat.lt_of_lt_of_le hb h.len)]; exact h.pre b hb
  len := by rw [List.length_append]; have := h.len; omega
  ok := fun r2 hr2 => by
    obtain ⟨j, hj, e⟩ := List.mem_iff_getElem.1 hr2
    simp only [List.length_set] at hj
    rw [List.getElem_set] at e
    split at e
    · rw [← e]; exact ho
    · subst e
      have h1 := h.ok _ (List.getElem_mem hj)
      exact Res.ok_mono h1 fun y hy => by rw [List.getElem?_append_left (Res.nums_lt h1 hy)]
  apart := by
    have hp := List.pairwise_iff_getElem.1 h.apart
    rw [List.pairwise_iff_getElem]
    intro i j hi hj hij x hx hx'
    simp only [List.length_set] at hi hj
    simp only [List.getElem_set] at hx hx'
    split at hx
    · rename_i e
      rw [if_neg (by omega)] at hx'
      rw [hn] at hx
      simp only [List.mem_singleton] at hx
      subst hx
      exact absurd (Res.nums_lt (h.ok _ (List.getElem_mem hj)) hx') (Nat.lt_irrefl _)
    · split at hx'
      · rw [hn] at hx'
        simp only [List.mem_singleton] at hx'
        subst hx'
        exact absurd (Res.nums_lt (h.ok _ (List.getElem_mem hi)) hx) (Nat.lt_irrefl _)
      · exact hp i j hi hj hij x hx hx'
theorem Owns.own {H G : Heap} {rs : List Res} (h : Owns H G rs) {k d sz n : Nat} {v : V} {cs : List V} (hk : rs[k]? = some (.own v d sz n cs)) : cs.length = n * sz ∧ (v = .tl n cs ∨ ∃ b, v = .snap b n cs ∧ H.length ≤ b ∧ G[b]? = some (.bld d n sz)) := h.ok _ (List.mem_of_getElem? hk)

theorem Owns.pick {H G : Heap} {rs rs' : List Res} (h : Owns H G rs) (ix : List Nat) (hn : ix.Nodup) (he : rs'.map some = ix.map fun i => rs[i]?) : Owns H G rs' where
  pre := h.pre
  len := h.len
  ok := fun r hr => by
    have : some r ∈ rs'.map some := List.mem_map.2 ⟨r, hr, rfl⟩
    rw [he] at this
    obtain ⟨i, _, hi⟩ := List.mem_map.1 this
    exact h.ok r (List.mem_of_getElem? hi)
  apart := by
    have hlen : rs'.length = ix.length := by have := congrArg List.length he; simpa using this
    have hget : ∀ i (hi : i < rs'.length), rs[ix[i]'(by omega)]? = some rs'[i] := by
      intro i hi
      have := congrArg (fun l => l[i]?) he
      simp only [List.getElem?_map, List.getElem?_eq_getElem hi, List.getElem?_eq_getElem (show i < ix.length by omega), Option.map_some] at this
      exact (Option.some.inj this).symm
    have hp := List.pairwise_iff_getElem.1 h.apart
    rw [List.pairwise_iff_getElem]
    intro i j hi hj hij x hx hx'
    obtain ⟨a1, a2⟩ := List.getElem?_eq_some_iff.1 (hget i hi)
    obtain ⟨b1, b2⟩ := List.getElem?_eq_some_iff.1 (hget j hj)
    rw [← a2] at hx
    rw [← b2] at hx'
    have hne : ix[i]'(by omega) ≠ ix[j]'(by omega) := List.pairwise_iff_getElem.1 hn i j (by omega) (by omega) hij
    rcases Nat.lt_or_ge (ix[i]'(by omega)) (ix[j]'(by omega)) with hlt | hge
    · exact hp _ _ a1 b1 hlt x hx hx'
    · exact hp _ _ b1 a1 (by omega) x hx' hx

section steps
variable {P : Program} {h : Hints} {fk n base : Nat} {lk : Lk} {c : Cx} {ops : Array Oper} {s kk : Bool} {d : Nat} {ty : TypeId} {pos : String} {aft : Array Edge} {l : List (Bool × Bool × Oper)} {Q : St → Prop} {T : Nat → V} {G G' H : Heap} {rs : List Res} {op : Op}
variable {α : Type} [GoT α]

theorem pk {H G : Heap} {rs rs' : List Res} (h : Owns H G rs) (ix : List Nat) (hn : ix.Nodup := by decide) (he : rs'.map some = ix.map fun i => rs[i]? := by rfl) : Owns H G rs' := h.pick ix hn he
theorem pBq {t t2 : TypeId} {x y : Operand} {a b : Bool} (ht : P.underlying t = some .bool) (k : wpR (cxL P h fk n base lk) ops l ⟨upd T d (.bool (a == b)), G⟩ Q) (h1 : ev T x = some (.bool a) := by rfl) (h2 : ev T y = some (.bool b) := by rfl) (hd : Nat.blt d n = true := by rfl) :
    wpR (cxL P h fk n base lk) ops ((s, kk, ⟨some d, .binOp .eql t x y t2, ty, pos, aft, none⟩) :: l) ⟨T, G⟩ Q := pB k h1 h2 (by simp only [binK, ht]) hd
theorem pBn {t t2 : TypeId} {x y : Operand} {a b : Bool} (ht : P.underlying t = some .bool) (k : wpR (cxL P h fk n base lk) ops l ⟨upd T d (.bool (!(a == b))), G⟩ Q) (h1 : ev T x = some (.bool a) := by rfl) (h2 : ev T y = some (.bool b) := by rfl) (hd : Nat.blt d n = true := by rfl) :
    wpR (cxL P h fk n base lk) ops ((s, kk, ⟨some d, .binOp .neq t x y t2, ty, pos, aft, none⟩) :: l) ⟨T, G⟩ Q := pB k h1 h2 (by simp only [binK, ht]) hd
/-- A struct literal. -/
theorem pBd {t : TypeId} {parts : Array (Nat × Operand)} {ps : List (Nat × V)} {z : List V} {pl : List (Nat × Nat)} (cs : List V) (hz : zeroOf P t = some z) (hp : placesK P t = some pl) (k : wpR (cxL P h fk n base lk) ops l ⟨upd T d (.agg cs), G⟩ Q) (h1 : evP T parts.toList = some ps := by rfl) (h2 : partsK (fun i => pl[i]?) z ps = some cs := by rfl) (hd : Nat.blt d n = true := by rfl) :
    wpR (cxL P h fk n base lk) ops ((s, kk, ⟨some d, .build t parts, ty, pos, aft, none⟩) :: l) ⟨T, G⟩ Q := by
  refine pV ?_ hd k
  rw [opV_build, h1]
  show (zeroOf P t).bind _ = _
  rw [hz]
  show (placesK P t).bind _ = _
  rw [hp]
  show ((partsK (fun i => pl[i]?) z ps).map V.agg).map _ = _
  rw [h2]
  rfl
/-- A field of a struct value. -/
theorem pFd {st : TypeId} {x : Operand} {f off : Nat} {t : TypeId} {cs : List V} (v : V) (hf : fieldOff P st f = some off) (hft : fieldT P st f = some t) (hr : readCells P t cs off = some v) (k : wpR (cxL P h fk n base lk) ops l ⟨upd T d v, G⟩ Q) (h1 : ev T x = some (.agg cs) := by rfl) (hd : Nat.blt d n = true := by rfl) :
    wpR (cxL P h fk n base lk) ops ((s, kk, ⟨some d, .field st x f, ty, pos, aft, none⟩) :: l) ⟨T, G⟩ Q := by
  refine pV ?_ hd k
  rw [opV_field]
  show (fieldOff P st f).bind _ = _
  rw [hf]
  show (fieldT P st f).bind _ = _
  rw [hft]
  simp only [Option.bind_some, h1, aggCells]
  show (readCells P t cs off).map _ = _
  rw [hr]
  rfl
theorem rdc {t : TypeId} {cs : List V} {off : Nat} {v : V} (ha : aggT P t = some false) (hv : cs[off]? = some v := by rfl) : readCells P t cs off = some v := by unfold readCells; rw [ha]; exact hv
theorem rda {t : TypeId} {cs cs' : List V} {off m : Nat} (ha : aggT P t = some true) (hz : szOf P t = some m) (hm : Nat.ble (off + m) cs.length = true := by rfl) (hv : (cs.drop off).take m = cs' := by rfl) : readCells P t cs off = some (.agg cs') := by
  unfold readCells; rw [ha, hz]
  simp only [Option.bind_some]
  rw [if_pos (Nat.le_of_ble_eq_true hm), hv]
theorem pCv {src dst : TypeId} {x : Operand} {k1 k2 : IntKind} {a : Int} {kd : IntKind} (hs : P.underlying src = some (.int k1)) (ht : P.underlying dst = some (.int k2)) (k : wpR (cxL P h fk n base lk) ops l ⟨upd T d (.int k2 (k2.wrap a)), G⟩ Q) (h1 : ev T x = some (.int kd a) := by rfl) (hd : Nat.blt d n = true := by rfl) :
    wpR (cxL P h fk n base lk) ops ((s, kk, ⟨some d, .convert src dst x, ty, pos, aft, none⟩) :: l) ⟨T, G⟩ Q := by
  refine pV ?_ hd k
  unfold opV opK
  simp only []
  have hs' : ((cxL P h fk n base lk).care s kk).P.underlying src = some (.int k1) := hs
  have ht' : ((cxL P h fk n base lk).care s kk).P.underlying dst = some (.int k2) := ht
  rw [hs', ht', h1]
  rfl

theorem giveL_clean {lo k : Nat} {H : Heap} : ∀ (vs : List V), clean.cleanL 1 vs = true → vs.all V.isCell = true → giveV.giveL (giveV lo (k + 1)) H vs = some (vs, H)
  | [], _, _ => rfl
  | v :: vs, hh, hc => by
    simp only [clean.cleanL, Bool.and_eq_true] at hh
    simp only [List.all_cons, Bool.and_eq_true] at hc
    have : giveV lo (k + 1) H v = some (v, H) := by
      cases v with
      | lit lv n cs => simp only [giveV]; rw [if_pos hh.1]
      | int _ _ => rfl
      | bool _ => rfl
      | str _ => rfl
      | nilp => rfl
      | nilfn => rfl
      | agg cs => cases hc.1
      | tup cs => cases hc.1
      | _ => simp [clean] at hh
    simp only [giveV.giveL, this, Option.bind_some, giveL_clean vs hh.2 hc.2, Option.map_some]
theorem emb_agg {c : Cx} (hk : c.hints.keep c.fn = false) (x : α) : embed c H (.agg ((GoT.encL 0) x)) = some (.agg ((GoT.encL 0) x), H) := by
  unfold embed
  rw [hk]
  simp only [Bool.false_eq_true, if_false]
  split
  · rw [if_pos]
    simp only [clean, GoT.clean]
  · show giveV c.base (7 + 1) H _ = _
    rw [giveV, giveL_clean (k := 6) _ (GoT.clean x) (GoT.cell x)]
    rfl
theorem emb_lit {c : Cx} (hk : c.hints.keep c.fn = false) (xs : List α) : embed c H (.lit 0 xs.length ((flatL 0) xs)) = some (.lit 0 xs.length ((flatL 0) xs), H) := by
  unfold embed
  have hc : clean 1 (.lit 0 xs.length ((flatL 0) xs)) = true := by simp only [clean, flat_clean, beq_self_eq_true, Bool.true_or, Bool.true_and]
  rw [hk]
  simp only [Bool.false_eq_true, if_false]
  rw [hc]
  split
  · rfl
  · show giveV c.base (7 + 1) H _ = _
    rw [giveV, if_pos hc]
theorem emb_int {c : Cx} (hk : c.hints.keep c.fn = false) (kd : IntKind) (x : Int) : embed c H (.int kd x) = some (.int kd x, H) := by
  unfold embed
  rw [hk]
  simp only [Bool.false_eq_true, if_false]
  split <;> rfl
theorem emb_bool {c : Cx} (hk : c.hints.keep c.fn = false) (x : Bool) : embed c H (.bool x) = some (.bool x, H) := by
  unfold embed
  rw [hk]
  simp only [Bool.false_eq_true, if_false]
  split <;> rfl
theorem emb_str {c : Cx} (hk : c.hints.keep c.fn = false) (x : ByteArray) : embed c H (.str x) = some (.str x, H) := by
  unfold embed
  rw [hk]
  simp only [Bool.false_eq_true, if_false]
  split <;> rfl
theorem emb_nil {c : Cx} : embedL c H [] = some ([], H) := rfl
theorem emb_cons {c : Cx} {i : Nat} {v : V} {r : List (Nat × V)} (h1 : embed c H v = some (v, H)) (h2 : embedL c H r = some (r, H)) : embedL c H ((i, v) :: r) = some ((i, v) :: r, H) := by
  simp only [embedL, h1, h2, Option.bind_some, Option.map_some]
/-- A slice literal. -/
theorem pBs {t e : TypeId} {m : Nat} {parts : Array (Nat × Operand)} {ps : List (Nat × V)} {z : List V} (ys : List α) (he : elemT P t = some e) (hz : szOf P e = some (GoT.sz α)) (hz0 : zeroOf P e = some z) (hem : embedL ((cxL P h fk n base lk).care s kk) G ps = some (ps, G)) (k : wpR (cxL P h fk n base lk) ops l ⟨upd T d (.tl ys.length ((flatL 0) ys)), G⟩ Q)
    (hzl : z.length = GoT.sz α := by rfl) (hm : Nat.ble (m * GoT.sz α) 1048576 = true := by rfl) (hlen : m = ys.length := by rfl) (h1 : evP T parts.toList = some ps := by rfl) (h2 : partsK (fun i => some (i * GoT.sz α, GoT.sz α)) (List.replicate m z).flatten ps = some ((flatL 0) ys) := by rfl) (hd : Nat.blt d n = true := by rfl) :
    wpR (cxL P h fk n base lk) ops ((s, kk, ⟨some d, .buildSlice t m parts, ty, pos, aft, none⟩) :: l) ⟨T, G⟩ Q := by
  refine pV ?_ hd k
  unfold opV opK
  simp only []
  rw [h1]
  simp only [Option.bind_some, hem]
  show (elemT P t).bind _ = _
  rw [he]
  show (szOf P e).bind _ = _
  rw [hz]
  show (zeroOf P e).bind _ = _
  rw [hz0]
  simp only [Option.bind_some]
  rw [if_pos ⟨hzl, Nat.pos_iff_ne_zero.1 GoT.pos, Nat.le_of_ble_eq_true hm⟩, h2, hlen]
  rfl
/-- The shape of a list that can be read. -/
def Bears (G : Heap) (v : V) (xs : List α) : Prop := lenK v = some xs.length ∧ contents G (GoT.sz α) v = some ((flatL 0) xs)
theorem bears_lit (lv : Nat) (xs : List α) : Bears G (.lit lv xs.length ((flatL 0) xs)) xs := ⟨rfl, rfl⟩
theorem bears_tl (xs : List α) : Bears G (.tl xs.length ((flatL 0) xs)) xs := ⟨rfl, rfl⟩
theorem bears_own {j dd sz : Nat} {v : V} {xs : List α} (hO : Owns H G rs) (hj : rs[j]? = some (.own v dd sz xs.length ((flatL 0) xs))) : Bears G v xs := by
  rcases (hO.own hj).2 with rfl | ⟨b, rfl, _⟩
  · exact ⟨rfl, rfl⟩
  · exact ⟨rfl, rfl⟩
theorem ap_tl {c : Cx} {st xt e : TypeId} {w : V} {ys : List α} {by_ m : Nat} {z cs : List V} (hy : Bears G w ys) (he : elemT c.P st = some e) (hz : szOf c.P e = some (GoT.sz α)) (hby : bytesOf c.P e = some by_) (hz0 : zeroOf c.P e = some z) (he' : (elemT c.P xt).isSome = true) (hzl : z.length = GoT.sz α) :
    appendK c st xt G (.tl m cs) w = if ys.length = 0 then some (.tl m cs, G) else if cs.length = m * GoT.sz α ∧ (m + ys.length) * (by_ + 1) ≤ 70368744177664 then some (.snap G.length (m + ys.length) (cs ++ (flatL 0) ys), G ++ [.bld c.d (m + ys.length) (GoT.sz α)]) else none := by
  unfold appendK
  rw [he, Option.bind_some, hz, Option.bind_some, hby, Option.bind_some, hz0, Option.bind_some, if_pos ⟨he', Nat.pos_iff_ne_zero.1 GoT.pos, hzl⟩, hy.1, Option.bind_some, hy.2, Option.bind_some, if_pos ⟨flat_len ys, flat_cell ys⟩]
theorem ap_snap {c : Cx} {st xt e : TypeId} {w : V} {ys : List α} {by_ m b : Nat} {z cs : List V} (hy : Bears G w ys) (he : elemT c.P st = some e) (hz : szOf c.P e = some (GoT.sz α)) (hby : bytesOf c.P e = some by_) (hz0 : zeroOf c.P e = some z) (he' : (elemT c.P xt).isSome = true) (hzl : z.length = GoT.sz α) :
    appendK c st xt G (.snap b m cs) w = if ys.length = 0 then some (.snap b m cs, G) else match G[b]? with
        | some (.bld l m' sz') => if cs.length = m * GoT.sz α ∧ (m + ys.length) * (by_ + 1) ≤ 70368744177664 ∧ m' = m ∧ sz' = GoT.sz α ∧ c.mayWrite b = true then some (.snap b (m + ys.length) (cs ++ (flatL 0) ys), G.set b (.bld l (m + ys.length) (GoT.sz α))) else none
        | _ => none := by
  unfold appendK
  rw [he, Option.bind_some, hz, Option.bind_some, hby, Option.bind_some, hz0, Option.bind_some, if_pos ⟨he', Nat.pos_iff_ne_zero.1 GoT.pos, hzl⟩, hy.1, Option.bind_some, hy.2, Option.bind_some, if_pos ⟨flat_len ys, flat_cell ys⟩]
  rfl
theorem pAp {st xt e e' : TypeId} {x y : Operand} {v w : V} {xs ys zs : List α} {by_ dd sz : Nat} {z : List V} (hO : Owns H G rs) (j : Nat) (happ : appB by_ xs ys = some zs) (hy : Bears G w ys) (he : elemT P st = some e) (hz : szOf P e = some (GoT.sz α)) (hby : bytesOf P e = some by_) (hz0 : zeroOf P e = some z) (he' : elemT P xt = some e') (hb : base = H.length)
    (k : ∀ v' G', (Nz v → Nz v') → Owns H G' (rs.set j (.own v' lk.length (GoT.sz α) zs.length ((flatL 0) zs))) → wpR (cxL P h fk n base lk) ops l ⟨upd T d v', G'⟩ Q)
    (h1 : ev T x = some v := by rfl) (h2 : ev T y = some w := by rfl) (hzl : z.length = GoT.sz α := by rfl) (hj : rs[j]? = some (.own v dd sz xs.length ((flatL 0) xs)) := by rfl) (hdd : dd = lk.length := by rfl) (hsz : sz = GoT.sz α := by rfl) (hd : Nat.blt d n = true := by rfl) :
    wpR (cxL P h fk n base lk) ops ((s, kk, ⟨some d, .call ⟨.builtin .append, #[x, y], #[st, xt]⟩, ty, pos, aft, none⟩) :: l) ⟨T, G⟩ Q := by
  subst hb hdd hsz
  obtain ⟨hl, hv⟩ := hO.own hj
  unfold appB at happ
  split at happ
  case isFalse => cases happ
  rename_i hroom
  simp only [Option.some.injEq] at happ
  subst happ
  have start : ∀ r : Option (V × Heap), appendK ((cxL P h fk n H.length lk).care s kk) st xt G v w = r → opV ((cxL P h fk n H.length lk).care s kk) (.call ⟨.builtin .append, #[x, y], #[st, xt]⟩) ⟨T, G⟩ = r := by
    intro r hr
    rw [opV_append]
    simp only [h1, h2, Option.bind_some]
    exact hr
  have hx' : (elemT P xt).isSome = true := by rw [he']; rfl
  have hap1 := fun m cs => ap_tl (c := (cxL P h fk n H.length lk).care s kk) (m := m) (cs := cs) hy he hz hby hz0 hx' hzl
  have hap2 := fun b m cs => ap_snap (c := (cxL P h fk n H.length lk).care s kk) (b := b) (m := m) (cs := cs) hy he hz hby hz0 hx' hzl
  rcases Nat.eq_zero_or_pos ys.length with h0 | h0
  · have hys : ys = [] := List.eq_nil_of_length_eq_zero h0
    subst hys
    have hrs : rs.set j (.own v lk.length (GoT.sz α) xs.length ((flatL 0) xs)) = rs := by
      apply List.ext_getElem?
      intro i
      rw [List.getElem?_set]
      split
      · rename_i e1; subst e1
        obtain ⟨q1, q2⟩ := List.getElem?_eq_some_iff.1 hj
        rw [if_pos q1, hj]
      · rfl
    have k2 := k v G id (by simp only [List.append_nil]; rw [hrs]; exact hO)
    refine pV (start _ ?_) hd k2
    rcases hv with rfl | ⟨b, rfl, _, _⟩
    · rw [hap1]; exact if_pos rfl
    · rw [hap2]; exact if_pos rfl
  · have hroom := hroom.resolve_left (by omega)
    have hl2 : ((flatL 0) xs ++ (flatL 0) ys).length = (xs.length + ys.length) * GoT.sz α := by rw [List.length_append, flat_len, flat_len, Nat.add_mul]
    have e1 : (xs ++ ys).length = xs.length + ys.length := List.length_append
    rw [e1, flat_append] at k
    rcases hv with rfl | ⟨b, rfl, hbb, hg⟩
    · refine pV (start _ ?_) hd (k (.snap G.length (xs.length + ys.length) ((flatL 0) xs ++ (flatL 0) ys)) (G ++ [.bld lk.length (xs.length + ys.length) (GoT.sz α)]) (fun _ => Nz.snap) (hO.swap hj rfl rfl ⟨hl2, .inr ⟨G.length, rfl, hO.len, push_get _ _⟩⟩))
      rw [hap1, if_neg (by omega), if_pos ⟨hl, hroom⟩]
      rfl
    · have hlt : b < G.length := (List.getElem?_eq_some_iff.1 hg).1
      have hm : ((cxL P h fk n H.length lk).care s kk).mayWrite b = true := by
        unfold Cx.mayWrite
        simp only [Bool.or_eq_true, decide_eq_true_eq]
        exact .inl hbb
      refine pV (start _ ?_) hd (k (.snap b (xs.length + ys.length) ((flatL 0) xs ++ (flatL 0) ys)) (G.set b (.bld lk.length (xs.length + ys.length) (GoT.sz α))) (fun _ => Nz.snap) (hO.set hj rfl rfl ⟨hl2, .inr ⟨b, rfl, hbb, by rw [set_get, if_pos ⟨rfl, hlt⟩]⟩⟩))
      rw [hap2, if_neg (by omega), hg]
      simp only []
      rw [if_pos ⟨hl, hroom, trivial, trivial, hm⟩]
theorem pLenO {x : Operand} {t : TypeId} {v : V} {xs : List α} (hb : Bears G v xs) (ht : strT P t = some false) (k : wpR (cxL P h fk n base lk) ops l ⟨upd T d (.int .i64 xs.length), G⟩ Q) (h1 : ev T x = some v := by rfl) (hd : Nat.blt d n = true := by rfl) :
    wpR (cxL P h fk n base lk) ops ((s, kk, ⟨some d, .call ⟨.builtin .len, #[x], #[t]⟩, ty, pos, aft, none⟩) :: l) ⟨T, G⟩ Q := by
  refine pLen (b := false) (a := v) ht k h1 ?_ hd
  have := hb.1
  cases v <;> first | exact this | simp [lenK] at this
/-- An element of a list that was appended to. -/
theorem pXo {xs : List α} {i : Int} {x : α} {t e : TypeId} {y z : Operand} {kd : IntKind} {v : V} {dd sz : Nat} (hO : Owns H G rs) (j : Nat) (hc : getI xs i = some x) (he : elemT P t = some e) (hz : szOf P e = some (GoT.sz α)) (k : ∀ lv, wpR (cxL P h fk n base lk) ops l ⟨upd T d (.lp lv ((flatL 0) xs) (i.toNat * GoT.sz α)), G⟩ Q)
    (h1 : ev T y = some v := by rfl) (h2 : ev T z = some (.int kd i) := by rfl) (hj : rs[j]? = some (.own v dd sz xs.length ((flatL 0) xs)) := by rfl) (hd : Nat.blt d n = true := by rfl) :
    wpR (cxL P h fk n base lk) ops ((s, kk, ⟨some d, .indexAddr t y z, ty, pos, aft, none⟩) :: l) ⟨T, G⟩ Q := by
  rcases (hO.own hj).2 with hv | ⟨b, hv, _⟩
  · subst hv
    refine pV ?_ hd (k 0)
    rw [opV_indexAddr]
    show (elemT P t).bind _ = _
    rw [he, Option.bind_some]
    show (szOf P e).bind _ = _
    simp only [hz, h1, h2, Option.bind_some, asInt, idxP, lenK]
    rw [if_pos (getI_lt hc)]
    rfl
  · subst hv
    refine pV (v := .lp lk.length ((flatL 0) xs) (i.toNat * GoT.sz α)) ?_ hd (k _)
    rw [opV_indexAddr]
    show (elemT P t).bind _ = _
    rw [he, Option.bind_some]
    show (szOf P e).bind _ = _
    simp only [hz, h1, h2, Option.bind_some, asInt, idxP, lenK]
    rw [if_pos (getI_lt hc)]
    rfl
end steps

/-- A list that was appended to as a result. -/
theorem finO {P : Program} {h : Hints} {k d : Nat} {lr : List ResultVar} {T : Nat → V} {G H : Heap} {rs : List Res} {vs : List V} {α : Type} [GoT α] {xs : List α} {v : V} {dd sz : Nat} {x : X} (hO : Owns H G rs) (j : Nat) (hd : 0 < d) (h1 : resultsK P G T lr = some vs := by rfl) (h2 : oneOf vs = v := by rfl)
    (hj : rs[j]? = some (.own v dd sz xs.length ((flatL 0) xs)) := by rfl) (hdd : dd = d := by rfl) (hg : h.grow k = false := by rfl) (ht : h.thaw k = false := by rfl) (hx : x = .normal ∨ x = .ret := by first | exact Or.inl rfl | exact Or.inr rfl) : Fin P h k H.length d lr (.lit 0 xs.length ((flatL 0) xs), H) x ⟨T, G⟩ := by
  subst hdd
  have hcl := resL_clean' (th := false) (lo := H.length) (d := dd) (k := 7) (X := (G, [])) (Nat.succ_pos 6) ((flatL 0) xs) (cleanL_up hd Nat.one_pos _ (flat_clean xs)) (flat_cell xs)
  rcases (hO.own hj).2 with rfl | ⟨b, rfl, hbb, hgb⟩
  · refine fin (v' := .lit 0 xs.length ((flatL 0) xs)) (G2 := G) hO hg hx h1 h2 ?_ hO.out
    rw [ht]
    show resV false H.length dd (7 + 1) (G, []) _ = _
    rw [resV]
    split
    · rename_i h0
      have : xs = [] := List.eq_nil_of_length_eq_zero h0
      subst this
      rfl
    · rw [hcl]; rfl
  · have hcl' := resL_clean' (th := false) (lo := H.length) (d := dd) (k := 7) (X := (G.set b .dead, [])) (Nat.succ_pos 6) ((flatL 0) xs) (cleanL_up hd Nat.one_pos _ (flat_clean xs)) (flat_cell xs)
    refine fin (v' := .lit 0 xs.length ((flatL 0) xs)) (G2 := G.set b .dead) hO hg hx h1 h2 ?_ ?_
    · rw [ht]
      show resV false H.length dd (7 + 1) (G, []) _ = _
      rw [resV]
      simp only [hgb]
      rw [if_neg (by omega), hcl']
      rfl
    · apply List.ext_getElem?
      intro i
      rw [List.getElem?_take]
      split
      · rename_i hi
        rw [set_get, if_neg (by omega)]
        exact hO.pre i hi
      · rename_i hi; rw [List.getElem?_eq_none (by omega)]

end Go.Proofs.Ytblodpbcinkehaa.K
