/- An operation of the machine against the program's own: all that write. -/
import Derived.Test.YtpkflnohagieiaaAmSnd11
set_option linter.unusedSimpArgs false
set_option linter.unusedVariables false
namespace Go.Am
open Go Go.RowKit

section
variable {P : Program} {E : Emb} {M : Mem} {w : World} {gl : Nat → Bool} {ρ : Opd → V} {ρ' : Operand → Value}

theorem copy_rel (h : Rel E M w) {ta tb ty e : TypeId} (hu : P.underlying ta = some (.slice e)) {es : Nat} (hs : szE P e = some es) {s x v : V} {s' x' : Value} (hsr : VR E s s') (hxr : VR E x x') {M' : Mem} (hv : vcopy es M s x = some (v, M')) :
    AppOk P E M w (Builtin.copy_ #[ta, tb] ty #[s', x']) v M' := by
  unfold vcopy at hv
  simp only [Option.bind_eq_some_iff] at hv
  obtain ⟨m, hm, hv⟩ := hv
  have hlen := lenOf_rel (P := P) hxr hm
  split at hv
  · rename_i a len cap
    have hrun : ∀ (a' : Option Addr) (cap' : Nat) (us : List Value) (w1 : World), (Builtin.firstCells es (Nat.min m len) x').run P w = .ok us.toArray w →
        (match a' with | some a => (storeCells a us).run P w = .ok () w1 | none => w1 = w) →
        (Builtin.copy_ #[ta, tb] ty #[.slice a' len cap', x']).run P w = .ok (goInt (Nat.min m len)) w1 := by
      intro a' cap' us w1 h1 h2
      simp only [Builtin.copy_, List.getElem?_toArray, List.getElem?_cons_zero, List.getElem?_cons_succ, Sem.run_bind, run_underlying hu, Result.andThen_ok, hlen, run_sizeOf' hs, h1]
      cases a' with
      | none => subst h2; rfl
      | some a =>
        simp only at h2
        simp only [Sem.run_bind, h2, Result.andThen_ok, Sem.run_pure]
    rw [Bool.cond_eq_ite] at hv
    split at hv
    · rename_i h0
      have h0 := Nat.eq_of_beq_eq_true h0
      cases hv
      have hf : (Builtin.firstCells es (Nat.min m len) x').run P w = .ok (#[] : Array Value) w := by
        rw [h0]
        cases x <;> simp only [srcLen, Option.some.injEq] at hm <;> try (cases hm; done)
        · cases hxr
          simp [Builtin.firstCells]
        · cases hxr <;> (simp only [Builtin.firstCells, Nat.zero_mul]; rfl)
      refine ⟨E, _, w, ?_, by rw [show (0 : Int) = ((Nat.min m len : Nat) : Int) from by rw [h0]; rfl]; exact .int _ _, h, Ext.refl E M w⟩
      cases hsr <;> exact hrun _ _ [] w hf rfl
    · rename_i h0
      simp only [Option.bind_eq_some_iff] at hv
      obtain ⟨new, hnew, hv⟩ := hv
      obtain ⟨us, hus, hfr, hnl⟩ := srcCells_rel (P := P) h hxr hm (Nat.min_le_left _ _) hnew
      split at hv
      · rename_i b o
        simp only [Option.map_eq_some_iff] at hv
        obtain ⟨M1, hw, hv⟩ := hv
        cases hv
        cases hsr with
        | slice hE hc hn =>
          obtain ⟨w', hr, hR, hX⟩ := h.write (P := P) hE hus hw
          exact ⟨E, _, w', hrun _ _ us w' hfr hr, .int _ _, hR, hX⟩
        | sliceZero hE hsp hz =>
          exact absurd (show Nat.beq (Nat.min m 0) 0 = true from by rw [show Nat.min m 0 = 0 from Nat.min_zero m]; rfl) h0
      · cases hv
  · cases hv

theorem wrap_small {n : Nat} (h : n < 9223372036854775808) : IntKind.i64.wrap (n : Int) = n := by
  have e1 : (2 ^ IntKind.i64.bits : Int) = 18446744073709551616 := by decide
  have e2 : (2 ^ (IntKind.i64.bits - 1) : Int) = 9223372036854775808 := by decide
  have e3 : IntKind.i64.signed = true := rfl
  have hm : (n : Int) % 18446744073709551616 = n := Int.emod_eq_of_lt (by omega) (by omega)
  simp only [IntKind.wrap, e1, e2, e3, hm, Bool.true_and]
  rw [if_neg (by simp; omega)]

theorem freeze_alloc (w : World) (arr : Array Value) (e : TypeId) (n : Nat) : (w.alloc (.cells arr e)).freeze ⟨w.heap.size, n, none⟩ 1 = w.alloc (.cells arr e (n, n + 1)) := by
  have hh : (w.heap.push (.cells arr e)).modify w.heap.size (fun o => match o with
      | .cells c elem (lo, hi) => .cells c elem (if lo == hi then (n, n + 1) else (min lo n, max hi (n + 1)))
      | o => o) = w.heap.push (.cells arr e (n, n + 1)) := by
    apply Array.ext_getElem?
    intro i
    rw [Array.getElem?_modify, Array.getElem?_push, Array.getElem?_push]
    by_cases hi : w.heap.size = i
    · subst hi; simp
    · rw [if_neg hi, if_neg (fun e => hi e.symm), if_neg (fun e => hi e.symm)]
  simp only [World.freeze, if_neg (show ¬ (1 : Nat) = 0 by omega)]
  show ({ w with heap := _ } : World) = { w with heap := _ }
  congr 1

theorem makeSlice_rel (h : Rel E M w) {t e : TypeId} (hu : P.underlying t = some (.slice e)) {es bytes : Nat} (hs : szE P e = some es) (hby : bytesE P e = some bytes) {z : V} (hz : zeroE P e = some z) (he0 : es ≠ 0) (hzl : z.cells.length = es)
    {k1 k2 : IntKind} {l c : Nat} (hlc : l ≤ c) (hr1 : c * bytes ≤ maxRoom) (hr2 : c ≤ maxRoom) :
    AppOk P E M w (Instr.makeSlice t (.int k1 l) (.int k2 c)) (.slice (some (M.next, 0)) l (.exact c)) (M.push (.cells (repl c z.cells) false)) := by
  obtain ⟨z', hz', hzr⟩ := zeroV_rel (P := P) (E := E) hz
  have hzs : z'.cells.size = es := by have := hz'.cells.length; simp only [Array.length_toList] at this; omega
  have hti : ∃ ti, P.info? e = some ti ∧ ti.bytes = bytes := by
    simp only [bytesE, Option.map_eq_some_iff] at hby
    exact hby
  obtain ⟨ti, hti1, hti3⟩ := hti
  have hinfo : ∀ w : World, (typeInfo e).run P w = .ok ti w := fun w => by simp [typeInfo, hti1]
  have wl : IntKind.i64.wrap (l : Int) = l := wrap_small (by unfold maxRoom at hr2; omega)
  have wc : IntKind.i64.wrap (c : Int) = c := wrap_small (by unfold maxRoom at hr2; omega)
  have hzrel := zeros_rel hz'.cells es c hzs he0
  have hnot : ¬ ((decide ((c : Int) < 0) || decide ((ti.bytes : Int) * (c : Int) > 2 ^ 48) || decide ((l : Int) < 0) || decide ((l : Int) > (c : Int))) = true) := by
    have e1 : (ti.bytes : Int) * (c : Int) ≤ 17592186044416 := by
      rw [hti3, Int.mul_comm]
      unfold maxRoom at hr1
      have h2 := Int.ofNat_le.2 hr1
      rw [Int.natCast_mul] at h2
      exact h2
    simp only [Bool.or_eq_true, decide_eq_true_eq]
    omega
  have hrun : (Instr.makeSlice t (.int k1 l) (.int k2 c)).run P w = .ok (.slice (some ⟨w.heap.size, 0, none⟩) l c) (w.alloc (.cells ((Array.range (c * es)).map (z'.cells[· % z'.cells.size]!)) e)) := by
    simp only [Instr.makeSlice, Sem.run_bind, run_underlying hu, Result.andThen_ok, asInt, asIntOf, Sem.run_pure, hinfo, wl, wc]
    rw [if_neg hnot]
    simp only [Sem.run_bind, run_askRoom, Result.andThen_ok, run_sizeOf' hs, Int.toNat_natCast]
    by_cases hce : c * es = 0
    · rw [if_pos hce]
      have e4 : ((Array.range (c * es)).map fun x => (#[] : Array Value)[x % (#[] : Array Value).size]!) = (Array.range (c * es)).map (z'.cells[· % z'.cells.size]!) := by rw [hce]; simp
      simp only [Sem.run_bind, Sem.run_pure, Result.andThen_ok, e4, newRow, run_newObj]
      rfl
    · rw [if_neg hce]
      simp only [Sem.run_bind, Sem.run_pure, Result.andThen_ok, hzr w, newRow, run_newObj]
      rfl
  obtain ⟨hR, hX⟩ := grow_rel h hzrel #[] e
  simp only [Array.size_empty, Nat.add_zero, Array.append_empty, Array.toArray_toList] at hR hX
  exact ⟨_, _, _, hrun, .slice (o := 0) (d := 0) (Emb.more_same _ _ _) rfl hlc, hR, hX⟩

theorem strBytes_rel (h : Rel E M w) {sd d e : TypeId} (hs : P.underlying sd = some .string) (hd : P.underlying d = some (.slice e)) (he : P.underlying e = some (.int .u8)) (s : ByteArray) :
    AppOk P E M w (convert sd d (.string s)) (.slice (some (M.next, 0)) s.data.toList.length (.upto 1)) (M.push (.cells (s.data.toList.map fun c => .int .u8 (c.toNat : Int)) false)) := by
  obtain ⟨hd1, hd2⟩ := h.drew
  have hsz : s.data.toList.length = s.size := by simp
  have hcells : VRs E (s.data.toList.map fun c => V.int .u8 (c.toNat : Int)) (s.data.toList.map fun c => Value.int .u8 (c.toNat : Int)) :=
    VRs.map _ _ rfl fun i x y h1 h2 => by rw [h1] at h2; cases h2; exact .int _ _
  generalize hcap : (Question.appendCap s.size 0 e).cut (w.tape w.drawn (.appendCap s.size 0 e)) = cap
  have hge : s.size ≤ cap := by rw [← hcap]; simp only [Question.cut]; omega
  let rest : Array Value := Array.replicate (cap - s.size) (.int .u8 0)
  let arr : Array Value := (s.data.toList.map fun c => Value.int .u8 (c.toNat : Int)).toArray ++ rest
  have harr : s.data.map (fun b => Value.int .u8 (b.toNat : Int)) ++ Array.replicate (cap - s.size) (.int .u8 0) = arr := by
    show _ = (s.data.toList.map fun c => Value.int .u8 (c.toNat : Int)).toArray ++ _
    congr 1
    apply Array.ext'
    simp
  have hasz : arr.size = cap := by
    show ((s.data.toList.map fun c => Value.int .u8 (c.toNat : Int)).toArray ++ rest).size = cap
    simp [rest]
    omega
  have hsh : (w.drew.alloc (.cells arr e)).shape? w.heap.size = some (e, cap) := by
    have : (w.drew.alloc (.cells arr e)).heap[w.heap.size]? = some (.cells arr e) := by rw [heap_alloc]; exact if_pos rfl
    simp only [World.shape?, this, hasz]
  have hrun : (convert sd d (.string s)).run P w = .ok (.slice (some ⟨w.heap.size, 0, none⟩) s.size cap) (w.drew.alloc (.cells arr e (cap, cap + 1))) := by
    simp only [convert, Sem.run_bind, run_underlying hs, run_underlying hd, Result.andThen_ok, run_underlying he, Conv.stringToBytes, run_choose]
    rw [if_neg (by simp [Question.forced])]
    simp only [Result.andThen_ok, hcap, harr, newRow, Sem.run_bind, run_newObj, Sem.run_pure, markStringish, run_shape]
    have hW : ({ heap := w.heap.push (.cells arr e), tape := w.tape, drawn := w.drawn + 1, os := w.os, output := w.output } : World) = w.drew.alloc (.cells arr e) := rfl
    rw [hW]
    simp only [hsh, run_freeze, Result.andThen_ok]
    exact congrArg _ (freeze_alloc w.drew arr e cap)
  have hk : (s.data.toList.map fun c => Value.int .u8 (c.toNat : Int)).length + rest.size = cap := by simp [rest]; omega
  have hOR : OR (E.more M.next (w.drew.heap.size, 0, cap)) (.cells (s.data.toList.map fun c => V.int .u8 (c.toNat : Int)) false) (some (.cells arr e (cap, cap + 1))) 0 cap := by
    refine ⟨arr, e, (cap, cap + 1), rfl, ?_, by rw [hasz]; omega, fun _ i hi => by rw [hasz] at hi; simp; omega⟩
    intro i v hi
    obtain ⟨u, hu, hvu⟩ := hcells.get i v hi
    refine ⟨u, ?_, hvu.mono (Emb.more_le (h.fresh (Nat.le_refl _)))⟩
    have hlt := (List.getElem?_eq_some_iff.1 hu).1
    show ((s.data.toList.map fun c => Value.int .u8 (c.toNat : Int)).toArray ++ rest)[0 + i]? = _
    rw [Nat.zero_add, Array.getElem?_append_left (by simpa using hlt)]
    simpa using hu
  obtain ⟨hR, hX⟩ := hd1.alloc hOR
  rw [hsz]
  exact ⟨_, _, _, hrun, .slice (o := 0) (d := 0) (Emb.more_same _ _ _) ⟨by omega, by omega⟩ hge, hR, hd2.trans hX⟩

/-! ### maps -/
theorem foundAs_some {ents : List MapEntry} {i : Nat} {e : MapEntry} (h : ents[i]? = some e) : foundAs ents 0 (some i) = some (i, e.val) := by
  simp [foundAs, h]

theorem run_setObj {c : Nat} {o o' : Obj} (h : w.heap[c]? = some o) (hc : ∀ a e f, o ≠ .cells a e f) : (setObj c o').run P w = .ok () { w with heap := w.heap.setIfInBounds c o' } := by
  simp only [setObj, Sem.run, h]

theorem heap_set (w : World) (c : Nat) (o : Obj) (hc : c < w.heap.size) : ({ w with heap := w.heap.setIfInBounds c o } : World).heap[c]? = some o ∧ (∀ i, i ≠ c → ({ w with heap := w.heap.setIfInBounds c o } : World).heap[i]? = w.heap[i]?) ∧ ({ w with heap := w.heap.setIfInBounds c o } : World).heap.size = w.heap.size := by
  refine ⟨?_, ?_, by simp⟩
  · show (w.heap.setIfInBounds c o)[c]? = _
    rw [Array.getElem?_setIfInBounds_self_of_lt hc]
  · intro i hi
    show (w.heap.setIfInBounds c o)[i]? = _
    rw [Array.getElem?_setIfInBounds_ne (fun e => hi e.symm)]

/-- Plain keys that are the same have the same bits. -/
theorem sameBits_self {sh : List SK} : ∀ {us : List Value}, fitC sh us → ∀ u ∈ us, ∀ n, Instr.sameBits n u u = true := by
  induction sh with
  | nil => intro us h u hu; cases us with | nil => cases hu | cons => exact h.elim
  | cons s sh ih =>
    intro us h u hu n
    cases us with
    | nil => exact h.elim
    | cons v vs =>
      cases hu with
      | head =>
        have := h.1
        cases s <;> cases u <;> first | exact this.elim | (cases n <;> simp [Instr.sameBits, beq_toListBytes])
      | tail _ hm => exact ih h.2 u hm n

theorem VR.str_inv {x : V} {u : Value} (h : VR E x u) {l : List UInt8} (hx : x = .str l) : ∃ s : ByteArray, u = .string s ∧ s.data.toList = l := by
  cases h <;> cases hx
  exact ⟨_, rfl, rfl⟩
theorem bytes_ext {a b : ByteArray} (h : a.data.toList = b.data.toList) : a = b := by
  obtain ⟨⟨x⟩⟩ := a
  obtain ⟨⟨y⟩⟩ := b
  have : x = y := h
  rw [this]
theorem one_det {s : SK} {x : V} {u v : Value} (hf : s.fits x = true) (hu : VR E x u) (hv : VR E x v) : u = v := by
  cases s <;> cases x <;> simp [SK.fits] at hf
  · cases hu; cases hv; rfl
  · obtain ⟨s1, rfl, e1⟩ := hu.str_inv rfl
    obtain ⟨s2, rfl, e2⟩ := hv.str_inv rfl
    rw [bytes_ext (e1.trans e2.symm)]
  · cases hu; cases hv; rfl
theorem beq_det {sh : Sh} {x : V} {u v : Value} (hf : sh.ok x = true) (hu : VR E x u) (hv : VR E x v) : u = v := by
  have key : ∀ {sk : List SK} {xs : List V} {us vs : List Value}, fitAll sk xs = true → VRs E xs us → VRs E xs vs → us = vs := by
    intro sk
    induction sk with
    | nil =>
      intro xs us vs hf h1 h2
      cases xs with
      | nil => cases h1; cases h2; rfl
      | cons => simp [fitAll] at hf
    | cons s sk ih =>
      intro xs us vs hf h1 h2
      cases xs with
      | nil => simp [fitAll] at hf
      | cons x xs =>
        simp only [fitAll, cond_true_iff] at hf
        cases h1 with | cons a1 t1 =>
        cases h2 with | cons a2 t2 =>
        rw [ih hf.2 t1 t2, one_det hf.1 a1 a2]
  cases ha : sh.agg with
  | true =>
    obtain ⟨cs, rfl⟩ := Sh.ok_agg hf ha
    have := Sh.ok_cells hf
    cases hu; cases hv
    rename_i a h1 b h2
    congr 1
    apply Array.ext'
    exact key this h1 h2
  | false =>
    have h1 := key (Sh.ok_cells hf) hu.cells hv.cells
    have hn := Sh.ok_one hf ha
    have ag : ∀ {u : Value}, VR E x u → u.cells.toList = [u] := by
      intro u hu
      cases hu <;> first | exact absurd rfl (hn _) | rfl
    rw [ag hu, ag hv] at h1
    exact (List.cons.inj h1).1

theorem setMap_rel (h : Rel E M w) {b c d k : Nat} {es : List (V × V)} (hE : E b = some (c, d, k)) (hM : mapOf M b = some es) {es' : List (V × V)} {ents' : Array MapEntry} {clock' : Nat} (he : ER E es' ents'.toList) (hb : Born ents'.toList clock') :
    ∃ w', (setObj c (.map ents' clock')).run P w = .ok () w' ∧ Rel E (M.set b (.map es')) w' ∧ Ext E M w E (M.set b (.map es')) w' := by
  obtain ⟨ents, clock, hc, _, _⟩ := h.map hE hM
  have hlt := h.lt b c d k hE
  obtain ⟨h1, h2, h3⟩ := heap_set w c (.map ents' clock') hlt
  refine ⟨_, run_setObj (P := P) hc (by intros; intro e; cases e), ?_⟩
  have ho : own M b := by unfold own; rw [mapOf_some hM]; trivial
  exact h.setBlock (o' := .map es') hE ho trivial rfl rfl rfl h3 h1 h2 ⟨ents', clock', rfl, he, hb⟩

theorem VRs.set {E : Emb} : ∀ {vs : List V} {us : List Value} (i : Nat) {v : V} {u : Value}, VRs E vs us → VR E v u → VRs E (vs.set i v) (us.set i u)
  | [], [], _, _, _, .nil, _ => .nil
  | _ :: _, _ :: _, 0, _, _, .cons _ t, h => .cons h t
  | _ :: _, _ :: _, i + 1, _, _, .cons a t, h => .cons a (VRs.set i t h)
theorem VRs.erase {E : Emb} : ∀ {vs : List V} {us : List Value} (i : Nat), VRs E vs us → VRs E (vs.eraseIdx i) (us.eraseIdx i)
  | [], [], _, .nil => .nil
  | _ :: _, _ :: _, 0, .cons _ t => t
  | _ :: _, _ :: _, i + 1, .cons a t => .cons a (VRs.erase i t)

theorem mapUpdate_rel (h : Rel E M w) {t kt e : TypeId} (hu : P.underlying t = some (.map kt e)) {sh : Sh} (hs : shT P kt = some sh) {m k v : V} {m' k' v' : Value} (hm : VR E m m') (hk : VR E k k') (hv : VR E v v') {M' : Mem}
    (h1 : vmapUpdate sh M m k v = some M') : ∃ w', (Instr.mapUpdate t m' k' v').run P w = .ok () w' ∧ Rel E M' w' ∧ Ext E M w E M' w' := by
  unfold vmapUpdate at h1
  split at h1
  · rename_i b
    simp only [Option.bind_eq_some_iff] at h1
    obtain ⟨es, hM, h1⟩ := h1
    obtain ⟨hok, h1⟩ := cond_some h1
    simp only [Option.map_eq_some_iff] at h1
    obtain ⟨r, hr, rfl⟩ := h1
    cases hm
    rename_i c d kk hE
    obtain ⟨ents, clock, hb, ⟨hk1, hv1⟩, hB1, hB2⟩ := h.map hE hM
    have hf := findKey_rel (P := P) hs hk hk1 hr w
    have hg := run_getObj (P := P) hb (by intros; intro e; cases e)
    cases r with
    | none =>
      have he : ER E (es ++ [(k, v)]) (ents.push { key := k', val := v', born := clock }).toList := by
        refine ⟨?_, ?_⟩
        · simpa using hk1.app (.cons hk .nil)
        · simpa using hv1.app (.cons hv .nil)
      have hB : Born (ents.push { key := k', val := v', born := clock }).toList (clock + 1) := by
        refine ⟨?_, ?_⟩
        · rw [Array.toList_push, List.map_append, List.pairwise_append]
          refine ⟨hB1, by simp, ?_⟩
          intro a ha b2 hb2
          simp only [List.map_cons, List.map_nil, List.mem_singleton] at hb2
          subst hb2
          obtain ⟨e, he, rfl⟩ := List.mem_map.1 ha
          exact hB2 e he
        · intro e he
          rw [Array.toList_push, List.mem_append] at he
          rcases he with he | he
          · have := hB2 e he; omega
          · simp only [List.mem_singleton] at he; subst he; simp
      obtain ⟨w', h2, h3⟩ := setMap_rel (P := P) h hE hM he hB
      refine ⟨w', ?_, h3⟩
      simp only [Instr.mapUpdate, Sem.run_bind, run_underlying hu, Result.andThen_ok, hg, run_key hs hk hok, hf, foundAs]
      exact h2
    | some i =>
      obtain ⟨k2, v2, hi, hsame⟩ := mapIdx_lt hr
      obtain ⟨u, hu2, hvu⟩ := hk1.get i k2 (by simp [hi])
      rw [List.getElem?_map, Option.map_eq_some_iff] at hu2
      obtain ⟨en, hen, rfl⟩ := hu2
      have hen' : ents[i]? = some en := by simpa using hen
      obtain ⟨hok2, hok3, hbeq⟩ := vsame_some hsame
      have heq : k = k2 := V.beq_eq hbeq.symm
      subst heq
      have hkk : en.key = k' := beq_det hok2 hvu hk
      have hbits : Instr.sameBits 10000 en.key k' = true := by
        rw [hkk]
        have hfit := fitAll_rel hk.cells (Sh.ok_cells hok)
        cases ha : sh.agg with
        | true =>
          obtain ⟨cs, rfl⟩ := Sh.ok_agg hok ha
          cases hk
          rename_i cs' hcs
          have hall : ∀ u ∈ cs'.toList, Instr.sameBits 9999 u u = true := fun u hu => sameBits_self hfit u hu 9999
          show ((cs'.size == cs'.size) && (cs'.toList.zip cs'.toList).all fun (x, y) => Instr.sameBits 9999 x y) = true
          simp only [beq_self_eq_true, Bool.true_and, List.all_eq_true]
          intro p hp
          obtain ⟨p1, p2⟩ := p
          have : p1 = p2 ∧ p1 ∈ cs'.toList := by
            rw [List.mem_iff_getElem?] at hp
            obtain ⟨j, hj⟩ := hp
            rw [List.getElem?_zip_eq_some] at hj
            have := hj.1.symm.trans hj.2
            cases this
            exact ⟨rfl, List.mem_of_getElem? hj.1⟩
          obtain ⟨rfl, hmem⟩ := this
          exact hall _ hmem
        | false =>
          have hn := Sh.ok_one hok ha
          have : k'.cells.toList = [k'] := by
            cases hk <;> first | exact absurd rfl (hn _) | rfl
          rw [this] at hfit
          exact sameBits_self hfit k' (List.mem_singleton.2 rfl) 10000
      have hmod : (ents.modify i fun e => { e with key := k', val := v' }).toList = ents.toList.set i { en with key := k', val := v' } := by
        rw [Array.toList_modify]
        apply List.ext_getElem?
        intro j
        rw [List.getElem?_modify, List.getElem?_set]
        by_cases hij : i = j
        · subst hij
          have hl := (List.getElem?_eq_some_iff.1 hen).1
          rw [if_pos rfl, if_pos hl, hen]
          simp
        · simp [hij]
      have he : ER E (es.set i (k, v)) (ents.modify i fun e => { e with key := k', val := v' }).toList := by
        rw [hmod]
        refine ⟨?_, ?_⟩
        · simpa [List.map_set] using hk1.set i hk
        · simpa [List.map_set] using hv1.set i hv
      have hborn : (ents.modify i fun e => { e with key := k', val := v' }).toList.map (·.born) = ents.toList.map (·.born) := by
        rw [hmod, List.map_set]
        apply List.ext_getElem?
        intro j
        rw [List.getElem?_set]
        have hlt := (List.getElem?_eq_some_iff.1 hen).1
        by_cases hij : i = j
        · subst hij
          rw [if_pos rfl, if_pos (by simpa using hlt), List.getElem?_map, hen]
          rfl
        · rw [if_neg hij]
      have hB : Born (ents.modify i fun e => { e with key := k', val := v' }).toList clock := by
        refine ⟨by rw [hborn]; exact hB1, ?_⟩
        intro e he
        rw [hmod] at he
        rcases List.mem_or_eq_of_mem_set he with he | he
        · exact hB2 e he
        · subst he
          exact hB2 en (List.mem_of_getElem? hen)
      obtain ⟨w', h2, h3⟩ := setMap_rel (P := P) h hE hM he hB
      refine ⟨w', ?_, h3⟩
      have hkey : (((ents[i]?).map (·.key)).getD k') = en.key := by simp [hen']
      simp only [Instr.mapUpdate, Sem.run_bind, run_underlying hu, Result.andThen_ok, hg, run_key hs hk hok, hf, foundAs_some hen, hkey, Instr.keyThatStays, hbits, if_true, Sem.run_pure]
      exact h2
  · cases h1

theorem map_erase {α β : Type} (f : α → β) : ∀ (l : List α) (i : Nat), (l.eraseIdx i).map f = (l.map f).eraseIdx i
  | [], _ => rfl
  | _ :: _, 0 => rfl
  | a :: l, i + 1 => by simp [map_erase f l i]
theorem delete_rel (h : Rel E M w) {t tb ty kt e : TypeId} (hu : P.underlying t = some (.map kt e)) {sh : Sh} (hs : shT P kt = some sh) {m k : V} {m' k' : Value} (hm : VR E m m') (hk : VR E k k') {M' : Mem}
    (h1 : vdelete sh M m k = some M') : ∃ w', (Builtin.delete_ #[t, tb] ty #[m', k']).run P w = .ok (.tuple #[]) w' ∧ Rel E M' w' ∧ Ext E M w E M' w' := by
  unfold vdelete at h1
  split at h1
  · obtain ⟨hok, h1⟩ := cond_some h1
    cases h1
    cases hm
    refine ⟨w, ?_, h, Ext.refl E M w⟩
    simp only [Builtin.delete_, List.getElem?_toArray, List.getElem?_cons_zero, List.getElem?_cons_succ, Sem.run_bind, run_underlying hu, Result.andThen_ok, run_key hs hk hok, Sem.run_pure]
  · rename_i b
    simp only [Option.bind_eq_some_iff] at h1
    obtain ⟨es, hM, h1⟩ := h1
    obtain ⟨hok, h1⟩ := cond_some h1
    simp only [Option.map_eq_some_iff] at h1
    obtain ⟨r, hr, rfl⟩ := h1
    cases hm
    rename_i c d kk hE
    obtain ⟨ents, clock, hb, ⟨hk1, hv1⟩, hB1, hB2⟩ := h.map hE hM
    have hf := findKey_rel (P := P) hs hk hk1 hr w
    have hg := run_getObj (P := P) hb (by intros; intro e; cases e)
    cases r with
    | none =>
      obtain ⟨w', h2, h3⟩ := setMap_rel (P := P) (es' := es) (ents' := ents) (clock' := clock) h hE hM ⟨hk1, hv1⟩ ⟨hB1, hB2⟩
      refine ⟨w', ?_, h3⟩
      simp only [Builtin.delete_, List.getElem?_toArray, List.getElem?_cons_zero, List.getElem?_cons_succ, Sem.run_bind, run_underlying hu, Result.andThen_ok, hg, run_key hs hk hok, hf, foundAs, h2, Sem.run_pure]
    | some i =>
      obtain ⟨k2, v2, hi, hsame⟩ := mapIdx_lt hr
      obtain ⟨u, hu2, hvu⟩ := hk1.get i k2 (by simp [hi])
      rw [List.getElem?_map, Option.map_eq_some_iff] at hu2
      obtain ⟨en, hen, rfl⟩ := hu2
      have hdel : (ents.eraseIdxIfInBounds i).toList = ents.toList.eraseIdx i := by
        rw [Array.toList_eraseIdxIfInBounds]
      have he : ER E (es.eraseIdx i) (ents.eraseIdxIfInBounds i).toList := by
        rw [hdel]
        refine ⟨?_, ?_⟩
        · rw [map_erase, map_erase]; exact hk1.erase i
        · rw [map_erase, map_erase]; exact hv1.erase i
      have hB : Born (ents.eraseIdxIfInBounds i).toList clock := by
        rw [hdel]
        refine ⟨?_, fun e he => hB2 e (List.mem_of_mem_eraseIdx he)⟩
        rw [map_erase]
        exact hB1.sublist (List.eraseIdx_sublist ..)
      obtain ⟨w', h2, h3⟩ := setMap_rel (P := P) h hE hM he hB
      refine ⟨w', ?_, h3⟩
      simp only [Builtin.delete_, List.getElem?_toArray, List.getElem?_cons_zero, List.getElem?_cons_succ, Sem.run_bind, run_underlying hu, Result.andThen_ok, hg, run_key hs hk hok, hf, foundAs_some hen, h2, Sem.run_pure]
  · cases h1

theorem makeMap_rel (h : Rel E M w) {t : TypeId} : AppOk P E M w (Instr.makeMap t none) (.map (some M.next)) (M.push (.map [])) := by
  have hOR : OR (E.more M.next (w.heap.size, 0, 0)) (.map []) (some (.map #[] 0)) 0 0 := ⟨#[], 0, rfl, ⟨.nil, .nil⟩, by simp [Born]⟩
  obtain ⟨hR, hX⟩ := h.alloc hOR
  exact ⟨_, _, _, by simp [Instr.makeMap], .map (Emb.more_same _ _ _), hR, hX⟩

theorem rangeStr_rel (h : Rel E M w) {t : TypeId} (hu : P.underlying t = some .string) (s : ByteArray) : AppOk P E M w (Instr.range t (.string s)) (.ptr (some (M.next, 0))) (M.push (.strIter s.data.toList 0)) := by
  have hOR : OR (E.more M.next (w.heap.size, 0, 0)) (.strIter s.data.toList 0) (some (.stringIter s 0)) 0 0 := ⟨rfl, s, rfl, rfl⟩
  obtain ⟨hR, hX⟩ := h.alloc hOR
  refine ⟨_, _, _, ?_, .ptr (o := 0) (d := 0) (Emb.more_same _ _ _), hR, hX⟩
  simp only [Instr.range, Sem.run_bind, run_underlying hu, Result.andThen_ok, Sem.run_pure, run_newObj]
  rfl

theorem nextStr_rel (h : Rel E M w) {t : TypeId} {x v : V} {x' : Value} (hx : VR E x x') {M' : Mem} (hv : vnext M x = some (v, M')) : AppOk P E M w (Instr.next x' true t) v M' := by
  unfold vnext at hv
  split at hv
  · rename_i b
    split at hv
    · rename_i s pos hM
      cases hx
      rename_i c d k hE
      obtain ⟨o, ho, hr⟩ := h.at_ b c d k hE
      rw [hM] at ho
      cases ho
      obtain ⟨rfl, s', hc, rfl⟩ := hr
      have hg := run_getObj (P := P) hc (by intros; intro e; cases e)
      have hlt := h.lt b c 0 k hE
      have hback : (⟨s'.data.toList.toArray⟩ : ByteArray) = s' := bytes_ext (by simp)
      have ho2 : own M b := by unfold own; rw [hM]; trivial
      rw [Bool.cond_eq_ite] at hv
      split at hv
      · rename_i hp
        rw [ble_iff] at hp
        have hp : pos < s'.size := by have := of_decide_eq_true hp; simp at this; omega
        simp only [Option.some.injEq, Prod.mk.injEq] at hv
        obtain ⟨rfl, rfl⟩ := hv
        unfold utf8
        rw [hback]
        obtain ⟨h1, h2, h3⟩ := heap_set w c (.stringIter s' (pos + (Utf8.decode s' pos).2)) hlt
        obtain ⟨hR, hX⟩ := h.setBlock (o' := .strIter s'.data.toList (pos + (Utf8.decode s' pos).2)) hE ho2 trivial (w' := { w with heap := w.heap.setIfInBounds c (.stringIter s' (pos + (Utf8.decode s' pos).2)) }) rfl rfl rfl h3 h1 h2 ⟨rfl, s', rfl, rfl⟩
        refine ⟨E, _, _, ?_, .tup (.cons (.bool true) (.cons (.int .i64 pos) (.cons (.int .i32 (Utf8.decode s' pos).1) .nil))), hR, hX⟩
        have hso := run_setObj (P := P) (o' := .stringIter s' (pos + (Utf8.decode s' pos).2)) hc (by intros; intro e; cases e)
        simp only [Instr.next, Nat.add_zero, Sem.run_bind, hg, Result.andThen_ok]
        rw [if_pos hp]
        simp only [Sem.run_bind, hso, Result.andThen_ok, Sem.run_pure]
        rfl
      · rename_i hp
        rw [ble_iff] at hp
        have hp : ¬ pos < s'.size := fun e => hp (decide_eq_true (by simp; omega))
        simp only [Option.some.injEq, Prod.mk.injEq] at hv
        obtain ⟨rfl, rfl⟩ := hv
        refine ⟨E, _, w, ?_, .tup (.cons (.bool false) .nil), h, Ext.refl E M w⟩
        simp only [Instr.next, Nat.add_zero, Sem.run_bind, hg, Result.andThen_ok]
        rw [if_neg hp]
        rfl
    · cases hv
  · cases hv
end
end Go.Am
