/- Part 8. -/
import Derived.Test.YtnlfgnelfooljaaGreatDoorT7
import Derived.Lib.RuneBytes
import Derived.Lib.MapLaws
import Derived.Lib.ValidLaws
import Derived.Lib.Join
import Derived.Lib.SplitLaws
import Derived.Lib.ItoaNum
import Derived.Lib.ItoaLen
import Derived.Lib.ItoaMem
import Derived.Sort.Grow
import Derived.Sort.EncStr
import Derived.Lib.SlicesCompact
import Derived.ScopeJumps
import Derived.Maps.Own
import Derived.Maps.OwnSet
import Derived.Maps.AppendAt
import Derived.Shelf.Strconv.Itoa3
import Derived.Lib.AppendIntMem
import Derived.WalkKit
import Derived.WalkSpells
import Derived.Deep.LoopGhost
import Derived.Lib.OthersKept
import Derived.BigCall
set_option linter.unusedSimpArgs false
set_option linter.unusedVariables false
namespace Go.Tidy
open Go
def runesL : Nat→List UInt8→List Int
 | 0,_=>[]
 | n+1,l=>if l=[] then [] else (Lib.decodeL l).1::runesL n (l.drop (Lib.decodeL l).2)
def runesS (s : S) : List Int:=runesL s.size s.data.toList
def encR (l : List Int) : List UInt8:=l.flatMap Lib.encodeRune
def encS (l : List Int) : S:=⟨(encR l).toArray⟩
def isRune (r : Int) : Prop:=0≤r∧r≤1114111∧¬ (55296≤r∧r≤57343)
theorem dec_pos (l : List UInt8) : 1≤(Lib.decodeL l).2∧(Lib.decodeL l).2≤4∧isRune (Lib.decodeL l).1:=by
 rw [Lib.decodeL_N]
 have k0:=(l.getD 0 0).toNat_lt
 have k1:=(l.getD 1 0).toNat_lt
 have k2:=(l.getD 2 0).toNat_lt
 have k3:=(l.getD 3 0).toNat_lt
 unfold isRune
 rcases Lib.decodeN_shape l.length (l.getD 0 0).toNat (l.getD 1 0).toNat (l.getD 2 0).toNat (l.getD 3 0).toNat with ⟨c,e⟩ | ⟨c1,c2,c3,cv,e⟩ | ⟨c1,c2,c3,c4,cv,cs,e⟩ | ⟨c1,c2,c3,c4,c5,cv,cw,e⟩ | e
 all_goals
   rw [e]
   dsimp only
   omega
theorem enc_runes : ∀ (n : Nat) (l : List UInt8),l.length≤n→Lib.validD l=true→encR (runesL n l)=l
 | 0,l,h,_=>by rw [List.length_eq_zero_iff.1 (show l.length=0 by omega)]; rfl
 | n+1,l,h,hv=>by
   by_cases h0 : l=[]
   ·subst h0; simp [runesL,encR]
   ·rw [Lib.validD_step l h0] at hv
    split at hv
    ·cases hv
    ·rename_i hb
     have hp:=dec_pos l
     simp only [runesL,if_neg h0,encR,List.flatMap_cons]
     rw [Lib.encode_decode l h0 hb]
     have:=enc_runes n (l.drop (Lib.decodeL l).2) (by simp; omega) hv
     unfold encR at this
     rw [this,List.take_append_drop]
theorem runes_ok : ∀ (n : Nat) (l : List UInt8),∀ r ∈ runesL n l,isRune r
 | 0,_,r,h=>by simp [runesL] at h
 | n+1,l,r,h=>by
   simp only [runesL] at h
   split at h
   ·simp at h
   ·rcases List.mem_cons.1 h with rfl | h
    ·exact (dec_pos l).2.2
    ·exact runes_ok n _ r h
theorem runes_len : ∀ (n : Nat) (l : List UInt8),(runesL n l).length≤n
 | 0,_=>by simp [runesL]
 | n+1,l=>by
   simp only [runesL]
   split
   ·simp
   ·have:=runes_len n (l.drop (Lib.decodeL l).2)
    simp; omega
theorem encS_runes {s : S} (h : utfB s=true) : encS (runesS s)=s:=by
 rw [← validD_utfB] at h
 unfold encS runesS
 have e:=enc_runes s.size s.data.toList (Nat.le_refl _) h
 rw [e]
theorem isRune_of_mem {s : S} {r : Int} (h : r ∈ runesS s) : isRune r:=runes_ok _ _ r h
theorem runesS_len (s : S) : (runesS s).length≤s.size:=runes_len _ _
theorem encR_len : ∀ l : List Int,(encR l).length≤4 * l.length
 | []=>by simp [encR]
 | r::l=>by
   have h1:=(Lib.runeCells_le r).2
   rw [Lib.runeCells_length] at h1
   have h2:=encR_len l
   unfold encR at h2 ⊢
   rw [List.flatMap_cons,List.length_append]
   simp only [List.length_cons]
   omega
theorem encS_len (l : List Int) : (encS l).size≤4 * l.length:=by
 have:=encR_len l
 show (encR l).toArray.size≤_
 simpa using this
theorem u8_of {x : Int} (h0 : 0≤x) (h1 : x < 256) : (x.toNat.toUInt8).toNat=x.toNat:=by
 simp [Nat.toUInt8]
 omega
theorem decode_enc {r : Int} (h : isRune r) (l : List UInt8) : Lib.decodeL (Lib.encodeRune r++l)=(r.toNat,(Lib.encodeRune r).length):=by
 obtain ⟨h0,h1,h2⟩:=h
 rw [Lib.decodeL_N]
 unfold Lib.encodeRune
 rcases (show r≤127∨(128≤r∧r≤2047)∨((2048≤r∧r < 55296)∨(57343 < r∧r≤65535))∨65536≤r by omega) with a | ⟨a,b⟩ | a | a
 ·rw [Lib.encodeRuneZ_one h0 a]
  simp only [List.map_cons,List.map_nil,List.cons_append,List.nil_append,List.getD_cons_zero,List.length_cons,List.length_nil]
  rw [u8_of h0 (by omega)]
  unfold Lib.decodeN
  rw [if_pos (by omega)]
 ·rw [Lib.encodeRuneZ_two a b]
  simp only [List.map_cons,List.map_nil,List.cons_append,List.nil_append,List.getD_cons_zero,List.getD_cons_succ,List.length_cons,List.length_nil]
  rw [u8_of (by omega) (by omega),u8_of (by omega) (by omega)]
  unfold Lib.decodeN
  rw [if_neg (by omega),if_pos (by omega),if_pos (by omega)]
  congr 1; omega
 ·rw [Lib.encodeRuneZ_three a]
  simp only [List.map_cons,List.map_nil,List.cons_append,List.nil_append,List.getD_cons_zero,List.getD_cons_succ,List.length_cons,List.length_nil]
  rw [u8_of (by omega) (by omega),u8_of (by omega) (by omega),u8_of (by omega) (by omega)]
  unfold Lib.decodeN
  rw [if_neg (by omega),if_neg (by omega),if_pos (by omega),if_pos (by omega)]
  congr 1; omega
 ·rw [Lib.encodeRuneZ_four a h1]
  simp only [List.map_cons,List.map_nil,List.cons_append,List.nil_append,List.getD_cons_zero,List.getD_cons_succ,List.length_cons,List.length_nil]
  rw [u8_of (by omega) (by omega),u8_of (by omega) (by omega),u8_of (by omega) (by omega),u8_of (by omega) (by omega)]
  unfold Lib.decodeN
  rw [if_neg (by omega),if_neg (by omega),if_neg (by omega),if_pos (by omega),if_pos (by omega)]
  congr 1; omega
theorem enc_pos (r : Int) : 1≤(Lib.encodeRune r).length:=by
 have h1:=(Lib.runeCells_le r).1
 rw [Lib.runeCells_length] at h1; exact h1
theorem enc_fffd {r : Int} (h : r.toNat=65533) (h0 : 0≤r) : (Lib.encodeRune r).length=3:=by
 obtain rfl : r=65533:=by omega
 unfold Lib.encodeRune
 rw [Lib.encodeRuneZ_three (by omega)]
 rfl
theorem runes_enc : ∀ (rs : List Int) (n : Nat),(∀ r ∈ rs,isRune r)→(encR rs).length≤n→runesL n (encR rs)=rs
 | [],n,_,_=>by cases n <;> simp [encR,runesL]
 | r::rs,n,h,hn=>by
   have hp:=enc_pos r
   have e : encR (r::rs)=Lib.encodeRune r++encR rs:=by simp [encR]
   rw [e] at hn ⊢
   have hne : Lib.encodeRune r++encR rs ≠ []:=fun h0=>by
    have:=congrArg List.length h0
    rw [List.length_append,List.length_nil] at this; omega
   rw [List.length_append] at hn
   cases n with
   | zero=>omega
   | succ n =>
     have hr:=h r (by simp)
     simp only [runesL,if_neg hne,decode_enc hr,List.drop_left]
     rw [runes_enc rs n (fun x hx=>h x (by simp [hx])) (by omega)]
     congr 1
     have:=hr.1
     omega
theorem valid_enc : ∀ (rs : List Int),(∀ r ∈ rs,isRune r)→Lib.validD (encR rs)=true
 | [],_=>by simp [encR,Lib.validD,Lib.validGoD]
 | r::rs,h=>by
   have hp:=enc_pos r
   have e : encR (r::rs)=Lib.encodeRune r++encR rs:=by simp [encR]
   have hne : Lib.encodeRune r++encR rs ≠ []:=fun h0=>by
    have:=congrArg List.length h0
    rw [List.length_append,List.length_nil] at this; omega
   have hr:=h r (by simp)
   rw [e,Lib.validD_step _ hne,decode_enc hr,List.drop_left,if_neg,valid_enc rs (fun x hx=>h x (by simp [hx]))]
   rintro ⟨h1,h2⟩
   have h3 : (Lib.encodeRune r).length=3:=enc_fffd h1 hr.1
   have h2' : (Lib.encodeRune r).length=1:=h2
   omega
theorem runesS_enc {rs : List Int} (h : ∀ r ∈ rs,isRune r) : runesS (encS rs)=rs:=by
 unfold runesS encS
 exact runes_enc rs _ h (by simp [ByteArray.size])
theorem utf_enc {rs : List Int} (h : ∀ r ∈ rs,isRune r) : utfB (encS rs)=true:=by
 rw [← validD_utfB]
 exact valid_enc rs h
theorem turned_back {s : S} (h : utfB s=true) : encS (runesS (encS (runesS s).reverse)).reverse=s:=by
 rw [runesS_enc (fun r hr=>isRune_of_mem (s:=s) (List.mem_reverse.1 hr)),List.reverse_reverse,encS_runes h]
theorem byte_cont {r : Int} (h : isRune r) (i : Nat) (hi : 1≤i) (hl : i < (Lib.encodeRune r).length) : 128≤((Lib.encodeRune r).getD i 0).toNat∧((Lib.encodeRune r).getD i 0).toNat≤191:=by
 obtain ⟨h0,h1,h2⟩:=h
 unfold Lib.encodeRune at hl ⊢
 rcases (show r≤127∨(128≤r∧r≤2047)∨((2048≤r∧r < 55296)∨(57343 < r∧r≤65535))∨65536≤r by omega) with a | ⟨a,b⟩ | a | a
 ·rw [Lib.encodeRuneZ_one h0 a] at hl
  simp at hl; omega
 ·rw [Lib.encodeRuneZ_two a b] at hl ⊢
  simp at hl
  obtain rfl : i=1:=by omega
  simp only [List.map_cons,List.map_nil,List.getD_cons_zero,List.getD_cons_succ]
  rw [u8_of (by omega) (by omega)]; omega
 ·rw [Lib.encodeRuneZ_three a] at hl ⊢
  simp at hl
  rcases (show i=1∨i=2 by omega) with rfl | rfl
  all_goals
    simp only [List.map_cons,List.map_nil,List.getD_cons_zero,List.getD_cons_succ]
    rw [u8_of (by omega) (by omega)]; omega
 ·rw [Lib.encodeRuneZ_four a h1] at hl ⊢
  simp at hl
  rcases (show i=1∨i=2∨i=3 by omega) with rfl | rfl | rfl
  all_goals
    simp only [List.map_cons,List.map_nil,List.getD_cons_zero,List.getD_cons_succ]
    rw [u8_of (by omega) (by omega)]; omega
theorem byte_head {r : Int} (h : isRune r) : ¬ (128≤((Lib.encodeRune r).getD 0 0).toNat∧((Lib.encodeRune r).getD 0 0).toNat≤191):=by
 obtain ⟨h0,h1,h2⟩:=h
 unfold Lib.encodeRune
 rcases (show r≤127∨(128≤r∧r≤2047)∨((2048≤r∧r < 55296)∨(57343 < r∧r≤65535))∨65536≤r by omega) with a | ⟨a,b⟩ | a | a
 ·rw [Lib.encodeRuneZ_one h0 a]
  simp only [List.map_cons,List.map_nil,List.getD_cons_zero,List.getD_cons_succ]
  rw [u8_of (by omega) (by omega)]; omega
 ·rw [Lib.encodeRuneZ_two a b]
  simp only [List.map_cons,List.map_nil,List.getD_cons_zero,List.getD_cons_succ]
  rw [u8_of (by omega) (by omega)]; omega
 ·rw [Lib.encodeRuneZ_three a]
  simp only [List.map_cons,List.map_nil,List.getD_cons_zero,List.getD_cons_succ]
  rw [u8_of (by omega) (by omega)]; omega
 ·rw [Lib.encodeRuneZ_four a h1]
  simp only [List.map_cons,List.map_nil,List.getD_cons_zero,List.getD_cons_succ]
  rw [u8_of (by omega) (by omega)]; omega
theorem valid_head {l : List UInt8} (h0 : l ≠ []) (hv : Lib.validD l=true) : ∃ r m,isRune r∧l=Lib.encodeRune r++m∧Lib.validD m=true∧m.length < l.length:=by
 have hp:=dec_pos l
 rw [Lib.validD_step l h0] at hv
 split at hv
 ·cases hv
 ·rename_i hb
  refine ⟨(Lib.decodeL l).1,l.drop (Lib.decodeL l).2,hp.2.2,?_,hv,?_⟩
  ·rw [Lib.encode_decode l h0 hb,List.take_append_drop]
  ·have : 0 < l.length:=List.length_pos_iff.2 h0
   simp; omega
theorem valid_rune {r : Int} (h : isRune r) (l : List UInt8) : Lib.validD (Lib.encodeRune r++l)=Lib.validD l:=by
 have hp:=enc_pos r
 have hne : Lib.encodeRune r++l ≠ []:=fun h0=>by
  have:=congrArg List.length h0
  rw [List.length_append,List.length_nil] at this; omega
 rw [Lib.validD_step _ hne,decode_enc h,List.drop_left,if_neg]
 rintro ⟨h1,h2⟩
 have h3 : (Lib.encodeRune r).length=3:=enc_fffd h1 h.1
 have h2' : (Lib.encodeRune r).length=1:=h2
 omega
theorem valid_app : ∀ (n : Nat) (x y : List UInt8),x.length≤n→Lib.validD x=true→Lib.validD (x++y)=Lib.validD y
 | 0,x,y,h,_=>by rw [List.length_eq_zero_iff.1 (show x.length=0 by omega)]; rfl
 | n+1,x,y,h,hv=>by
   by_cases h0 : x=[]
   ·subst h0; rfl
   ·obtain ⟨r,m,hr,rfl,hm,hl⟩:=valid_head h0 hv
    rw [List.append_assoc,valid_rune hr,valid_app n m y (by omega) hm]
theorem getD_app_left (l m : List UInt8) (i : Nat) (h : i < l.length) : (l++m).getD i 0=l.getD i 0:=by
 simp [List.getD,List.getElem?_append_left h]
theorem getD_app_at (l : List UInt8) (c : UInt8) (m : List UInt8) : (l++c::m).getD l.length 0=c:=by
 simp [List.getD]
theorem valid_cut : ∀ (n : Nat) (a : List UInt8) (c : UInt8) (t : List UInt8),a.length≤n→¬ (128≤c.toNat∧c.toNat≤191)→Lib.validD (a++c::t)=true→Lib.validD a=true
 | 0,a,c,t,h,_,_=>by rw [List.length_eq_zero_iff.1 (show a.length=0 by omega)]; simp [Lib.validD,Lib.validGoD]
 | n+1,a,c,t,h,hc,hv=>by
   by_cases h0 : a=[]
   ·subst h0; simp [Lib.validD,Lib.validGoD]
   ·have ha : 0 < a.length:=List.length_pos_iff.2 h0
    obtain ⟨r,m,hr,he,hm,hl⟩:=valid_head (l:=a++c::t) (by simp) hv
    have hp:=enc_pos r
    by_cases hw : (Lib.encodeRune r).length≤a.length
    ·have e1 : a=Lib.encodeRune r++a.drop (Lib.encodeRune r).length:=by
        have h1 : (a++c::t).take (Lib.encodeRune r).length=Lib.encodeRune r:=by rw [he,List.take_left]
        rw [List.take_append_of_le_length hw] at h1
        conv=>lhs; rw [← List.take_append_drop (Lib.encodeRune r).length a]
        rw [h1]
     have e2 : m=a.drop (Lib.encodeRune r).length++c::t:=by
      have h1 : (a++c::t).drop (Lib.encodeRune r).length=m:=by rw [he,List.drop_left]
      rw [List.drop_append_of_le_length hw] at h1
      exact h1.symm
     rw [e1,valid_rune hr]
     exact valid_cut n _ c t (by simp; omega) hc (by rw [← e2]; exact hm)
    ·exfalso
     have h1:=byte_cont hr a.length (by omega) (by omega)
     have h2 : (Lib.encodeRune r).getD a.length 0=c:=by
      rw [← getD_app_left _ m _ (by omega),← he,getD_app_at]
     rw [h2] at h1
     exact hc h1
theorem valid_parts {a p b : List UInt8} (hp : p ≠ []) (hv : Lib.validD (a++(p++b))=true) (hq : Lib.validD p=true) : Lib.validD a=true∧Lib.validD b=true:=by
 obtain ⟨r,m,hr,rfl,hm,_⟩:=valid_head hp hq
 have h1:=byte_head hr
 have h2:=enc_pos r
 obtain ⟨c,t,e⟩ : ∃ c t,Lib.encodeRune r=c::t:=by
  cases he : Lib.encodeRune r with
  | nil=>rw [he] at h2; simp at h2
  | cons c t=>exact ⟨c,t,rfl⟩
 have ha : Lib.validD a=true:=by
  rw [e] at hv h1
  simp only [List.cons_append] at hv
  exact valid_cut _ a c _ (Nat.le_refl _) (by simpa using h1) hv
 refine ⟨ha,?_⟩
 rw [valid_app _ a _ (Nat.le_refl _) ha,valid_app _ _ b (Nat.le_refl _) hq] at hv
 exact hv
theorem splitK_ne (sep : List UInt8) (k : Nat) (s : List UInt8) : ∃ x l,Lib.splitK sep 0 k s=x::l:=by
 cases k with
 | zero=>exact ⟨_,_,rfl⟩
 | succ k =>
   unfold Lib.splitK
   split
   ·exact ⟨_,_,rfl⟩
   ·exact ⟨_,_,rfl⟩
theorem index_at {s sep : List UInt8} (h : ¬ (Lib.index s sep == -1)=true) : ∃ a b,s=a++(sep++b)∧(Lib.index s sep).toNat=a.length:=by
 rcases Lib.index_spec s sep with ⟨h1,_⟩ | ⟨i,h1,h2,h3,_⟩
 ·rw [h1] at h; simp at h
 ·have h4 : sep <+: s.drop i:=by
     unfold Lib.occAt at h3
     simpa using h3
  obtain ⟨b,hb⟩:=h4
  refine ⟨s.take i,b,?_,?_⟩
  ·rw [hb,List.take_append_drop]
  ·rw [h1]; simp; omega
theorem splitK_spec {sep : List UInt8} (hs : sep ≠ []) (hq : Lib.validD sep=true) : ∀ (k : Nat) (s : List UInt8),Lib.validD s=true →
 (∀ x ∈ Lib.splitK sep 0 k s,Lib.validD x=true)∧Lib.join (Lib.splitK sep 0 k s) sep=s
 | 0,s,hv=>by
   refine ⟨fun x hx=>?_,by simp [Lib.splitK,Lib.join]⟩
   simp [Lib.splitK] at hx
   subst hx; exact hv
 | k+1,s,hv=>by
   unfold Lib.splitK
   split
   ·exact ⟨fun x hx=>by simp at hx; subst hx; exact hv,by simp [Lib.join]⟩
   ·rename_i hi
    obtain ⟨a,b,he,hl⟩:=index_at hi
    rw [hl,Nat.add_zero]
    rw [he] at hv ⊢
    obtain ⟨va,vb⟩:=valid_parts hs hv hq
    have e1 : (a++(sep++b)).take a.length=a:=List.take_left
    have e2 : (a++(sep++b)).drop (a.length+sep.length)=b:=by
     rw [← List.drop_drop,List.drop_left,List.drop_left]
    rw [e1,e2]
    obtain ⟨i1,i2⟩:=splitK_spec hs hq k b vb
    refine ⟨fun x hx=>?_,?_⟩
    ·rcases List.mem_cons.1 hx with rfl | hx
     ·exact va
     ·exact i1 x hx
    ·obtain ⟨y,l,hy⟩:=splitK_ne sep k b
     unfold Lib.join at i2 ⊢
     rw [hy] at i2 ⊢
     rw [List.intercalate_cons_cons,i2]
     simp
def piecesS (s sep : S) : List S:=Lib.splitB sep 0 (Lib.countB s sep) s
theorem pieces_utf {s sep : S} (h : utfB s=true) (hq : utfB sep=true) (h0 : sep.data.toList ≠ []) : (∀ x ∈ piecesS s sep,utfB x=true)∧Lib.join ((piecesS s sep).map (·.data.toList)) sep.data.toList=s.data.toList:=by
 rw [← validD_utfB] at h hq
 obtain ⟨h1,h2⟩:=splitK_spec h0 hq (Lib.countB s sep) s.data.toList h
 unfold piecesS
 rw [Lib.splitB_data]
 refine ⟨fun x hx=>?_,h2⟩
 rw [← validD_utfB]
 refine h1 _ ?_
 rw [← Lib.splitB_data]
 exact List.mem_map.2 ⟨x,hx,rfl⟩
theorem splitB_le (sep : ByteArray) : ∀ (k : Nat) (s x : ByteArray),x ∈ Lib.splitB sep 0 k s→x.size≤s.size
 | 0,s,x,h=>by simp [Lib.splitB] at h; subst h; exact Nat.le_refl _
 | k+1,s,x,h=>by
   unfold Lib.splitB at h
   split at h
   ·simp at h; subst h; exact Nat.le_refl _
   ·rcases List.mem_cons.1 h with rfl | h
    ·rw [ByteArray.size_extract]; omega
    ·have:=splitB_le sep k _ x h
     rw [ByteArray.size_extract] at this; omega
theorem pieces_le {s sep x : S} (h : x ∈ piecesS s sep) : x.size≤s.size:=splitB_le sep _ s x h
end Go.Tidy
namespace Go.Tidy
open Go
section
variable {a : Int} {b c : S} {d : List Val} {e : List S}
@[simp] theorem Val.kind_mk : (Val.mk a b c d e).kind=a:=rfl
@[simp] theorem Val.num_mk : (Val.mk a b c d e).num=b:=rfl
@[simp] theorem Val.text_mk : (Val.mk a b c d e).text=c:=rfl
@[simp] theorem Val.items_mk : (Val.mk a b c d e).items=d:=rfl
@[simp] theorem Val.keys_mk : (Val.mk a b c d e).keys=e:=rfl
end
mutual
def weightV : Val→Nat
 | .mk _ n t is ks=>1+(digs n).length+t.size+(ks.map fun k=>1+k.size).sum+weightVs is
def weightVs : List Val→Nat
 | []=>0
 | v::l=>weightV v+weightVs l
end
theorem weightVs_sum (l : List Val) : weightVs l=(l.map weightV).sum:=by induction l with | nil=>rfl | cons a l ih=>simp [weightVs,ih]
theorem weightV_def (v : Val) : weightV v=1+(digs v.num).length+v.text.size+(v.keys.map fun k=>1+k.size).sum+(v.items.map weightV).sum:=by
 obtain ⟨k,n,t,is,ks⟩:=v
 rw [weightV,weightVs_sum]; rfl
theorem sum_mem {l : List Nat} {x : Nat} (h : x ∈ l) : x≤l.sum:=by
 induction l with
 | nil=>cases h
 | cons a l ih =>
   rcases List.mem_cons.1 h with rfl | h
   ·simp
   ·have:=ih h
    simp; omega
theorem weight_item {v x : Val} (h : x ∈ v.items) : weightV x < weightV v:=by
 have:=sum_mem (List.mem_map.2 ⟨x,h,rfl⟩ : weightV x ∈ v.items.map weightV)
 rw [weightV_def v]; omega
theorem sum_take_le (l : List Nat) (k : Nat) : (l.take k).sum≤l.sum:=by
 conv=>rhs; rw [← List.take_append_drop k l]
 rw [List.sum_append]; omega
theorem sum_take_succ {l : List Nat} {k : Nat} (h : k < l.length) : (l.take (k+1)).sum=(l.take k).sum+l[k]:=by
 rw [List.take_succ_eq_append_getElem h,List.sum_append,List.sum_singleton]
def emp : S:=⟨#[]⟩
def txtV (s : S) : Val:=.mk 4 emp s [] []
def numV (n : S) : Val:=.mk 3 n emp [] []
def lstV (l : List Val) : Val:=.mk 5 emp emp l []
theorem formed_txt (s : S) : formedV (txtV s)=utfB s:=by simp [txtV,formedV,formedVs,sEmp,emp]
theorem formed_num (s : S) : formedV (numV s)=numB s:=by simp [numV,formedV,formedVs,sEmp,emp]
theorem formed_lst (l : List Val) : formedV (lstV l)=l.all formedV:=by simp [lstV,formedV,formedVs_all,sEmp,emp]
theorem digs_emp : digs emp=[]:=rfl
theorem weight_txt (s : S) : weightV (txtV s)=1+s.size:=by simp [txtV,weightV,weightVs,digs_emp]
theorem weight_num (s : S) : weightV (numV s)=1+(digs s).length:=by
 have : emp.size=0:=rfl
 simp [numV,weightV,weightVs,this]
theorem weight_lst (l : List Val) : weightV (lstV l)=1+(l.map weightV).sum:=by
 have : emp.size=0:=rfl
 simp [lstV,weightV,weightVs_sum,digs_emp,this]
def valD (l : List UInt8) : Nat:=l.foldl (fun n c=>10 * n+(c.toNat - 48)) 0
theorem dec_spec (u : Nat) : (∀ c ∈ Lib.decDigits u,48≤c.toNat∧c.toNat≤57)∧Lib.decDigits u ≠ []∧(u ≠ 0→(Lib.decDigits u).head? ≠ some 48)∧valD (Lib.decDigits u)=u:=by
 induction u using Nat.strongRecOn with
 | _ u ih =>
   rw [Lib.decDigits]
   by_cases h : u < 10
   ·rw [dif_pos h]
    have e : (UInt8.ofNat (48+u)).toNat=48+u:=by simp; omega
    refine ⟨fun c hc=>?_,by simp,fun h0 he=>?_,?_⟩
    ·simp only [List.mem_singleton] at hc
     subst hc; omega
    ·simp only [List.head?_cons,Option.some.injEq] at he
     have:=congrArg UInt8.toNat he
     rw [e] at this
     have h48 : UInt8.toNat 48=48:=rfl
     omega
    ·simp [valD]
     omega
   ·rw [dif_neg h]
    obtain ⟨h1,h2,h3,h4⟩:=ih (u / 10) (by omega)
    have e : (UInt8.ofNat (48+u % 10)).toNat=48+u % 10:=by simp; omega
    refine ⟨fun c hc=>?_,by simp,fun h0 he=>?_,?_⟩
    ·rcases List.mem_append.1 hc with hc | hc
     ·exact h1 c hc
     ·simp only [List.mem_singleton] at hc
      subst hc; omega
    ·obtain ⟨a,l,ha⟩:=List.exists_cons_of_ne_nil h2
     rw [ha] at he h3
     exact h3 (by omega) (by simpa using he)
    ·unfold valD at h4 ⊢
     rw [List.foldl_append,h4]
     simp only [List.foldl_cons,List.foldl_nil,e]
     omega
def itoaT (n : Int) : S:=⟨(Lib.itoa n).toArray⟩
theorem itoaT_nat (u : Nat) : (itoaT u).data.toList=Lib.decDigits u:=by
 unfold itoaT
 rw [Lib.itoa_nonneg]
theorem digs_itoa (u : Nat) : digs (itoaT u)=Lib.decDigits u:=by
 unfold digs neg
 rw [itoaT_nat]
 obtain ⟨h1,h2,_,_⟩:=dec_spec u
 obtain ⟨a,l,ha⟩:=List.exists_cons_of_ne_nil h2
 rw [ha,if_neg]
 intro h
 have e : a=45:=by simpa using h
 have:=(h1 a (by rw [ha]; simp)).1
 rw [e] at this
 exact absurd this (by decide)
theorem num_itoa (u : Nat) : numB (itoaT u)=true:=by
 obtain ⟨h1,h2,h3,_⟩:=dec_spec u
 unfold numB
 rw [digs_itoa,itoaT_nat]
 simp only [Bool.and_eq_true,List.all_eq_true,Bool.not_eq_true',List.isEmpty_eq_false_iff,Bool.or_eq_true,bne_iff_ne,beq_iff_eq]
 refine ⟨⟨fun c hc=>?_,h2⟩,?_⟩
 ·have:=h1 c hc
  simp only [isDig,Bool.and_eq_true,decide_eq_true_eq,UInt8.le_iff_toNat_le]
  exact this
 ·by_cases h0 : u=0
  ·right; subst h0
   rw [Lib.decDigits]; rfl
  ·exact .inl (h3 h0)
theorem dec_len {u : Nat} (h : u≤1114111) : (Lib.decDigits u).length≤7:=by
 have h1 : ∀ v,v < 10→(Lib.decDigits v).length=1:=fun v hv=>by rw [Lib.decDigits,dif_pos hv]; rfl
 have h2 : ∀ (k v : Nat),(∀ w,w < 10 ^ (k+1)→(Lib.decDigits w).length≤k+1)→v < 10 ^ (k+2)→(Lib.decDigits v).length≤k+2:=fun k v hk hv=>by
  by_cases h : v < 10
  ·rw [h1 v h]; omega
  ·rw [Lib.decDigits,dif_neg h,List.length_append]
   have:=hk (v / 10) (by rw [Nat.pow_succ] at hv; omega)
   simp; exact this
 have h3 : ∀ k v,v < 10 ^ (k+1)→(Lib.decDigits v).length≤k+1:=fun k=>by
  induction k with
  | zero=>intro v hv; rw [h1 v (by simpa using hv)]; omega
  | succ k ih=>intro v hv; exact h2 k v ih hv
 exact h3 6 u (by omega)
end Go.Tidy
set_option maxRecDepth 100000
namespace Go.Proofs.YtnlfgnelfooljaaGreatDoor.Pv
open Go Go.Tidy
theorem c_utf_Valid (s : S) : Ret prog M.F_utf_Valid [.str s] (.bool (utfB s)):=by
 refine Ret.go hmix h_utf_Valid (by simp) fun hb w0 F0 hG=>?_
 simp
 refine XCall.ret (c_utf8_ValidString s) ?_
 simp
theorem not_rise {l : List S} {k : Nat} (hk : k < l.length) (h : ¬ (utfB l[k]=true∧∀ h : 0 < k,sLt (l[k - 1]'(by omega)) l[k]=true)) : riseB l=false:=by
 cases hr : riseB l
 ·rfl
 ·exact absurd (riseB_at hk hr) h
set_option maxHeartbeats 4000000 in
theorem c_value_rise (l : List S) : Ret prog M.F_value_rise [.vec 1 false (l.map encStr)] (.bool (riseB l)):=by
 refine Ret.go hmix h_value_rise (by simp) fun hb w0 F0 hG=>?_
 simp only [bndL,bndV,List.length_map,LIM,and_true] at hb
 generalize hB : riseB l=B
 simp
 obtain ⟨J,hJ⟩ : ∃ J : Nat→Unit→Prop,J=fun k _=>RiseTo l k:=⟨_,rfl⟩
 refine XLoop.cnt hmix l.length (fun k _=>⟨[(7,.int .i64 k),(6,.int .i64 l.length),(5,.vec 1 false (l.map encStr)),(0,.vec 1 false (l.map encStr))],[]⟩) J () (by rw [hJ]; exact fun j _ h=>absurd h (by omega)) (by simp) fun k _ hk hj=>?_
 have hw:=wrap64 (n:=(k : Int)+1) (by omega) (by omega)
 have hj' : RiseTo l k:=by rw [hJ] at hj; exact hj
 by_cases g : k < l.length
 ·simp [g]
  refine XCall.ret (c_utf_Valid l[k]) ?_
  cases e1 : utfB l[k]
  ·have : B=false:=by rw [← hB]; exact not_rise g (fun h=>by rw [e1] at h; cases h.1)
   simp [this]
  ·by_cases g0 : 0 < k
   ·have g0' : (0 : Int) < k:=by omega
    have wm:=wrap64 (n:=(k : Int) - 1) (by omega) (by omega)
    have em : (k : Int) - 1=((k - 1 : Nat) : Int):=by omega
    have g1 : k - 1 < l.length:=by omega
    rw [em] at wm
    cases e2 : sLt l[k - 1] l[k]
    ·have : B=false:=by rw [← hB]; exact not_rise g (fun h=>by have:=h.2 g0; rw [e2] at this; cases this)
     simp [g0',g0,g,g1,wm,em,e2,this]
    ·simp [g0',g0,g,g1,wm,em,e2,hw]
     exact ⟨(),by rw [hJ]; exact hj'.step g e1 fun _=>e2⟩
   ·have g0' : ¬ (0 : Int) < k:=by omega
    simp [g0',g0,g,hw]
    exact ⟨(),by rw [hJ]; exact hj'.step g e1 fun h=>absurd h g0⟩
 ·have : B=true:=by rw [← hB]; exact riseB_of fun i hi=>hj' i hi (by omega)
  simp [g,this]
theorem c_slices_IndexFunc_Value (l : List Val) (fid : Nat) (caps : List PV) (p : Val→Bool) (hc : ∀ hl,reifyL hl caps=caps) (hk : ∀ hl,keysL hl caps=[]) (hok : ∀ hl,okL hl caps) (hp : ∀ s ∈ l,Ret prog fid (.agg (cV s)::caps) (.bool (p s))) : Ret prog M.F_slices_IndexFunc_Value [.vec 5 false (l.map encVal),.fn fid [] caps] (.int .i64 (idxI p l)):=by
 refine Ret.go hmix h_slices_IndexFunc_Value (by simp) fun hb w0 F0 hG=>?_
 simp only [bndL,bndV,List.length_map,LIM,and_true] at hb
 generalize hB : idxI p l=B
 obtain ⟨J,hJ⟩ : ∃ J : Nat→Unit→Prop,J=fun k _=>AllTo (fun u=>!p u) l k:=⟨_,rfl⟩
 simp
 refine XLoop.cnt hmix l.length (fun k _=>⟨[(8,.int .i64 k),(7,.int .i64 l.length),(1,.fn fid [] caps),(0,.vec 5 false (l.map encVal))],[]⟩) J () (by rw [hJ]; exact .zero) (by simp) fun k _ hk' hj=>?_
 have hw:=wrap64 (n:=(k : Int)+1) (by omega) (by omega)
 have hj' : AllTo (fun u=>!p u) l k:=by rw [hJ] at hj; exact hj
 by_cases g1 : k < l.length
 ·cases e1 : p l[k]
  ·simp [g1,hw]
   refine XCall.ret (r:=.bool (p l[k])) (by simp [hc]; exact hp _ (List.getElem_mem g1)) ?_
   simp [e1,hc,hk,hok,hw]
   exact ⟨g1,(),by rw [hJ]; exact hj'.step g1 (by simp [e1])⟩
  ·have:=idxI_at g1 hj' e1
   simp [g1,hw]
   refine XCall.ret (r:=.bool (p l[k])) (by simp [hc]; exact hp _ (List.getElem_mem g1)) ?_
   simp [e1,hc,hk,hok,hw]
   rw [← hB,this]
 ·have : B=-1:=by rw [← hB]; exact idxI_no hj' g1
  have w1:=wrap64 (n:=-1) (by omega) (by omega)
  simp [g1,this,w1]
theorem c_slices_ContainsFunc_Value (l : List Val) (fid : Nat) (caps : List PV) (p : Val→Bool) (hc : ∀ hl,reifyL hl caps=caps) (hk : ∀ hl,keysL hl caps=[]) (hok : ∀ hl,okL hl caps) (hp : ∀ s ∈ l,Ret prog fid (.agg (cV s)::caps) (.bool (p s))) : Ret prog M.F_slices_ContainsFunc_Value [.vec 5 false (l.map encVal),.fn fid [] caps] (.bool (l.any p)):=by
 refine Ret.go hmix h_slices_ContainsFunc_Value (by simp) fun hb w0 F0 hG=>?_
 rw [← idxI_ge]
 simp
 refine XCall.ret (r:=.int .i64 (idxI p l)) (by simp [hc]; exact c_slices_IndexFunc_Value l fid caps p hc hk hok hp) ?_
 simp [hc,hk,hok]
def empV (v : Val) (a b c d : Bool) : Bool:=(a||sEmp v.num)&&(b||sEmp v.text)&&(c||v.items.isEmpty)&&(d||v.keys.isEmpty)
set_option maxHeartbeats 4000000 in
theorem c_value_empty (v : Val) (a b c d : Bool) : Ret prog M.F_value_empty [.agg (cV v),.bool a,.bool b,.bool c,.bool d] (.bool (empV v a b c d)):=by
 refine Ret.go hmix h_value_empty (by simp) fun hb w0 F0 hG=>?_
 have eI : v.items.isEmpty=decide (v.items.length=0):=by cases v.items <;> simp
 have eK : v.keys.isEmpty=decide (v.keys.length=0):=by cases v.keys <;> simp
 unfold empV
 rw [eI,eK]
 cases a <;> cases e1 : sEmp v.num <;> cases b <;> cases e2 : sEmp v.text <;> cases c <;> cases d <;> simp [e1,e2]
end Go.Proofs.YtnlfgnelfooljaaGreatDoor.Pv
set_option maxRecDepth 100000
namespace Go.Proofs.YtnlfgnelfooljaaGreatDoor.Pv
open Go Go.Tidy
theorem allF_step (l : List Val) (h : ∀ v ∈ l,Ret prog M.F_value_Formed [.agg (cV v)] (.bool (formedV v))) : Ret prog M.F_value_allFormed [.vec 5 false (l.map encVal)] (.bool (l.all formedV)):=by
 have cC:=c_slices_ContainsFunc_Value l M.F_value_allFormed_1 [] (fun v=>!formedV v) (fun _=>rfl) (fun _=>rfl) (fun _=>trivial) fun x hx=>by
  have c1:=h x hx
  refine Ret.go hmix h_value_allFormed_1 (by simp) fun hb w0 F0 hG=>?_
  simp
  intros
  refine XCall.ret (by first | exact c1 | (simpa using c1)) ?_
  simp
 have e : l.all formedV=!(l.any fun v=>!formedV v):=by rw [Bool.eq_iff_iff]; simp
 rw [e]
 generalize (l.any fun v=>!formedV v)=B at *
 refine Ret.go hmix h_value_allFormed (by simp) fun hb w0 F0 hG=>?_
 simp
 refine XCall.ret (by first | exact cC | (simpa using cC)) ?_
 simp
theorem formed_prog (v : Val) : formedV v=(if v.kind=0∨v.kind=1∨v.kind=2 then empV v false false false false
 else if v.kind=3 then empV v true false false false&&numB v.num
 else if v.kind=4 then empV v false true false false&&utfB v.text
 else if v.kind=5 then empV v false false true false&&v.items.all formedV
 else if v.kind=6 then empV v false false true true&&decide (v.items.length=v.keys.length)&&riseB v.keys&&v.items.all formedV else false):=by
 rw [formedV_def]
 unfold empV
 have hn : v.items.isEmpty=true→v.items.all formedV=true:=fun h=>by
  rw [List.isEmpty_iff] at h; rw [h]; rfl
 by_cases k : v.kind=0∨v.kind=1∨v.kind=2
 ·rw [if_pos k]
  have h3 : ¬ v.kind=3:=by omega
  have h4 : ¬ v.kind=4:=by omega
  have h5 : ¬ 5≤v.kind:=by omega
  have h6 : ¬ 6≤v.kind:=by omega
  have h6' : ¬ v.kind=6:=by omega
  have h0 : 0≤v.kind:=by omega
  have h7 : v.kind≤6:=by omega
  cases hi : v.items.isEmpty
  ·simp [h3,h4,h5,h6,h6',h0,h7,hi]
  ·simp [h3,h4,h5,h6,h6',h0,h7,hi,hn hi]
 rw [if_neg k]
 by_cases k3 : v.kind=3
 ·cases hi : v.items.isEmpty
  ·simp [k3,hi]
  ·simp [k3,hi,hn hi]
   cases numB v.num <;> simp
 by_cases k4 : v.kind=4
 ·cases hi : v.items.isEmpty
  ·simp [k4,hi]
  ·simp [k4,hi,hn hi]
   cases utfB v.text <;> simp
 by_cases k5 : v.kind=5
 ·simp [k5]
 by_cases k6 : v.kind=6
 ·simp [k6]
  rw [Bool.eq_iff_iff]; simp
  intro _
  constructor
  ·rintro ⟨h1,h2,h3⟩; exact ⟨⟨h1,h2.symm⟩,h3⟩
  ·rintro ⟨⟨h1,h2⟩,h3⟩; exact ⟨h1,h2.symm,h3⟩
 have : ¬ (0≤v.kind∧v.kind≤6):=by omega
 simp [k3,k4,k5,k6]
 intro a b
 exact absurd ⟨a,b⟩ this
set_option maxHeartbeats 8000000 in
theorem formed_walk (v : Val) (h : ∀ x ∈ v.items,Ret prog M.F_value_Formed [.agg (cV x)] (.bool (formedV x))) : Ret prog M.F_value_Formed [.agg (cV v)] (.bool (formedV v)):=by
 have cA:=allF_step v.items h
 have cN:=c_tens_Formed v.num
 have cU:=c_utf_Valid v.text
 have cR:=c_value_rise v.keys
 have hD:=formed_prog v
 have cE:=c_value_empty v
 refine Ret.go hmix h_value_Formed (by simp) fun hb w0 F0 hG=>?_
 simp only [bndL,bndV,List.length_map,LIM,and_true] at hb
 generalize formedV v=B at *
 generalize v.items.all formedV=A at *
 by_cases k0 : v.kind=0
 ·have c1:=cE false false false false
  simp [k0] at hD
  rw [← hD] at c1
  simp only [cV,k0] at c1
  simp [k0]
  intros
  refine XCut.go hmix ?_
  simp [k0]
  refine XCall.ret (by first | exact c1 | (simpa using c1)) ?_
  simp
 by_cases k1 : v.kind=1
 ·have c1:=cE false false false false
  simp [k1] at hD
  rw [← hD] at c1
  simp only [cV,k1] at c1
  simp [k1]
  intros
  refine XCut.go hmix ?_
  simp [k1]
  refine XCut.go hmix ?_
  simp [k1]
  refine XCall.ret (by first | exact c1 | (simpa using c1)) ?_
  simp
 by_cases k2 : v.kind=2
 ·have c1:=cE false false false false
  simp [k2] at hD
  rw [← hD] at c1
  simp only [cV,k2] at c1
  simp [k2]
  intros
  refine XCut.go hmix ?_
  simp [k2]
  refine XCut.go hmix ?_
  simp [k2]
  refine XCall.ret (by first | exact c1 | (simpa using c1)) ?_
  simp
 by_cases k3 : v.kind=3
 ·have c1:=cE true false false false
  simp [k3] at hD
  generalize empV v true false false false=B1 at *
  simp only [cV,k3] at c1
  simp [k3]
  intros
  refine XCut.go hmix ?_
  simp [k3]
  refine XCut.go hmix ?_
  simp [k3]
  refine XCall.ret (by first | exact c1 | (simpa using c1)) ?_
  cases B1
  ·simp [hD]
  ·simp at hD
   rw [← hD] at cN
   simp
   refine XCall.ret (by first | exact cN | (simpa using cN)) ?_
   simp
 by_cases k4 : v.kind=4
 ·have c1:=cE false true false false
  simp [k4] at hD
  generalize empV v false true false false=B1 at *
  simp only [cV,k4] at c1
  simp [k4]
  intros
  refine XCut.go hmix ?_
  simp [k4]
  refine XCut.go hmix ?_
  simp [k4]
  refine XCall.ret (by first | exact c1 | (simpa using c1)) ?_
  cases B1
  ·simp [hD]
  ·simp at hD
   rw [← hD] at cU
   simp
   refine XCall.ret (by first | exact cU | (simpa using cU)) ?_
   simp
 by_cases k5 : v.kind=5
 ·have c1:=cE false false true false
  simp [k5] at hD
  generalize empV v false false true false=B1 at *
  simp only [cV,k5] at c1
  simp [k5]
  intros
  refine XCut.go hmix ?_
  simp [k5]
  refine XCut.go hmix ?_
  simp [k5]
  refine XCall.ret (by first | exact c1 | (simpa using c1)) ?_
  cases B1
  ·simp [hD]
  ·simp at hD
   rw [← hD] at cA
   simp
   refine XCall.ret (by first | exact cA | (simpa using cA)) ?_
   simp
 by_cases k6 : v.kind=6
 ·have c1:=cE false false true true
  simp [k6] at hD
  generalize empV v false false true true=B1 at *
  simp only [cV,k6] at c1
  simp [k6]
  intros
  refine XCut.go hmix ?_
  simp [k6]
  refine XCut.go hmix ?_
  simp [k6]
  refine XCall.ret (by first | exact c1 | (simpa using c1)) ?_
  cases B1
  ·simp [hD]
  by_cases e1 : v.items.length=v.keys.length
  ·have e1' : (v.items.length : Int)=v.keys.length:=by omega
   cases e2 : riseB v.keys
   ·rw [e2] at cR
    simp [e1,e2] at hD
    simp [e1']
    refine XCall.ret (by first | exact cR | (simpa using cR)) ?_
    simp [hD]
   ·rw [e2] at cR
    simp [e1,e2] at hD
    rw [← hD] at cA
    simp [e1']
    refine XCall.ret (by first | exact cR | (simpa using cR)) ?_
    simp
    refine XCall.ret (by first | exact cA | (simpa using cA)) ?_
    simp
  ·have e1' : ¬ (v.items.length : Int)=v.keys.length:=by omega
   simp [e1] at hD
   simp [e1',hD]
 ·simp [k0,k1,k2,k3,k4,k5,k6] at hD
  simp
  intros
  refine XCut.go hmix ?_
  simp [k0]
  refine XCut.go hmix ?_
  simp [k0,k1,k2,k3,k4,k5,k6,hD]
theorem c_value_Formed (v : Val) : Ret prog M.F_value_Formed [.agg (cV v)] (.bool (formedV v)):=by
 induction hn : SizeOf.sizeOf v using Nat.strongRecOn generalizing v with
 | _ n ih =>
   subst hn
   exact formed_walk v fun x hx=>ih _ (val_sz hx) x rfl
theorem c_prim_Do_1 (x : Val) : Ret prog M.F_prim_Do_1 [.agg (cV x)] (.bool (!formedV x)):=by
 have c1:=c_value_Formed x
 refine Ret.go hmix h_prim_Do_1 (by simp) fun hb w0 F0 hG=>?_
 simp
 intros
 refine XCall.ret (by first | exact c1 | (simpa using c1)) ?_
 simp
end Go.Proofs.YtnlfgnelfooljaaGreatDoor.Pv
namespace Go.Proofs.YtnlfgnelfooljaaGreatDoor.Pv
open Go Go.RowKit
mutual
def lite : PV→Bool
 | .bool _ | .int _ _ | .str _ | .nilp | .nilf | .nili=>true
 | .vec _ _ []=>true
 | .agg cs=>liteL cs
 | _=>false
def liteL : List PV→Bool
 | []=>true
 | x::xs=>lite x&&liteL xs
end
mutual
theorem lite_rep {w w' : World} {c c' : Ctx} : ∀ (x : PV) (v : Value),lite x=true→RepV w c x v→RepV w' c' x v
 | .bool _,_,_,h=>h
 | .int _ _,_,_,h=>h
 | .str _,_,_,h=>h
 | .nilp,_,_,h=>h
 | .nilf,_,_,h=>h
 | .nili,_,_,h=>h
 | .vec _ _ [],v,_,h=>by
   obtain ⟨a,cap,h1,h2,h3,h4,h5,_⟩:=h
   exact ⟨a,cap,h1,h2,h3,h4,h5,.inl rfl⟩
 | .vec _ _ (_::_),_,hs,_=>by simp [lite] at hs
 | .agg cs,v,hs,h=>by
   obtain ⟨vs,e,h1,h2⟩:=h
   exact ⟨vs,e,liteL_rep cs _ (by simpa [lite] using hs) h1,h2⟩
 | .undef,_,hs,_ | .tup _,_,hs,_ | .ref _,_,hs,_ | .own _ _ _ _ _,_,hs,_ | .ptr _ _ _ _,_,hs,_ | .fn _ _ _,_,hs,_ | .iface _ _,_,hs,_ | .opt _ _,_,hs,_ | .raw _,_,hs,_ | .mapf _,_,hs,_=>by
   simp [lite] at hs
theorem liteL_rep {w w' : World} {c c' : Ctx} : ∀ (xs : List PV) (vs : List Value),liteL xs=true→RepL w c xs vs→RepL w' c' xs vs
 | [],_,_,h=>h
 | x::xs,_,hs,h=>by
   simp only [liteL,Bool.and_eq_true] at hs
   obtain ⟨u,us,e,h1,h2⟩:=h
   exact ⟨u,us,e,lite_rep x u hs.1 h1,liteL_rep xs us hs.2 h2⟩
end
theorem raw_rep {w : World} {c : Ctx} : ∀ (vs us : List Value),RepL w c (vs.map .raw) us↔us=vs
 | [],us=>by simp [RepL]
 | v::vs,us=>by
   simp only [List.map_cons,RepL,RepV,raw_rep vs]
   constructor
   ·rintro ⟨u,us',rfl,rfl,rfl⟩; rfl
   ·rintro rfl; exact ⟨_,_,rfl,rfl,rfl⟩
theorem RetO.raw {P : Program} {f : FuncId} {args : List PV} {vs : List Value} {esz : Nat} {xs : List (List PV)} {w0 : World} {c0 : Ctx} (hl : liteL args=true) (hr0 : RepL w0 c0 args vs) (hr : RetO P f args esz xs) : RetO P f (vs.map .raw) esz xs :=
 ⟨hr.1,fun w F us hG hF hus=>by
  rw [(raw_rep vs us).1 hus]
  exact hr.2 w F vs hG hF (liteL_rep args vs hl hr0)⟩
end Go.Proofs.YtnlfgnelfooljaaGreatDoor.Pv
namespace Go.Proofs.YtnlfgnelfooljaaGreatDoor.Pv
open Go Go.RowKit
def rowS (s : ByteArray) : List PV:=[.str s]
theorem holds_rows {w : World} {c : Ctx} {b : Nat} : ∀ {o : Nat} {l : List ByteArray},RepRows w c 1 b o (l.map rowS)→∀ j,j < l.length→∃ s,l[j]? = some s∧w.cell? ⟨b,o+j,none⟩=some (.string s)∧s.size≤LIM
 | _,[],_,j,hj=>absurd hj (by simp)
 | o,s::l,h,j,hj=>by
   obtain ⟨h1,h2,h3⟩:=h
   cases j with
   | zero =>
     obtain ⟨⟨v,v1,v2,v3⟩,_⟩:=h2
     obtain ⟨rfl,v4⟩:=v3
     exact ⟨s,rfl,v1,v4⟩
   | succ j =>
     obtain ⟨s',e1,e2,e3⟩:=holds_rows h3 j (by simpa using hj)
     exact ⟨s',by simpa using e1,by rw [show o+(j+1)=o+1+j by omega]; exact e2,e3⟩
theorem rows_of_cells {w : World} {c : Ctx} {b : Nat} : ∀ {o : Nat} {l : List ByteArray},(∀ j (hj : j < l.length),w.cell? ⟨b,o+j,none⟩=some (.string l[j])∧l[j].size≤LIM)→RepRows w c 1 b o (l.map rowS)
 | _,[],_=>trivial
 | o,s::l,h=>by
   have h0:=h 0 (by simp)
   refine ⟨rfl,⟨⟨.string s,by simpa using h0.1,rfl,rfl,by simpa using h0.2⟩,trivial⟩,rows_of_cells fun j hj=>?_⟩
   have:=h (j+1) (by simpa using hj)
   rw [show o+(j+1)=o+1+j by omega] at this
   simpa using this
end Go.Proofs.YtnlfgnelfooljaaGreatDoor.Pv
namespace Go.Proofs.YtnlfgnelfooljaaGreatDoor.Pv
open Go Go.RowKit
def RetK (P : Program) (f : FuncId) (args : List PV) (h : List (Key × Option HE)) (K : PV→List (Key × Option HE)→Prop) : Prop :=
 callable P f=true∧∀ (E : Env) (a : Act) (c : Ctx) (w : World) (vs : List Value) (d : Option Nat) (s : List (Nat × PV)),E.P=P→Good E ⟨s,h⟩ c a w→RepL w c args vs →
  Calls P f vs.toArray w fun e w'=>∃ v,e=.returned v∧∃ r h' c',K r h'∧Good E ⟨putS d r s,h'⟩ c' (a.put d v) w'
theorem RetK.mono {P : Program} {f : FuncId} {args : List PV} {h : List (Key × Option HE)} {K K' : PV→List (Key × Option HE)→Prop} (hr : RetK P f args h K) (hk : ∀ r h',K r h'→K' r h') : RetK P f args h K' :=
 ⟨hr.1,fun E a c w vs d s hP hg hrep=>Calls.mono (hr.2 E a c w vs d s hP hg hrep) (by
  rintro e w' ⟨v,he,r,h',c',h1,hg'⟩
  exact ⟨v,he,r,h',c',hk r h' h1,hg'⟩)⟩
theorem RetK.of {P : Program} {f nt : Nat} {m : MC} {rs : List RV} {args : List PV} {h : List (Key × Option HE)} {K : PV→List (Key × Option HE)→Prop} (hmix : P.follows .mixedOrders=true) (hm : mfOf P f=some (m.erase,nt,rs)) (hn : args.length≤nt)
 (hx : ∀ E : Env,E.P=P→(∀ k e,hk k h=some e→k.2 < E.V)→XC E m ⟨(St.init args).s,h⟩ [] (retIn rs fun r' h''=>∃ h',K r' h'∧(∀ k e,hk k h'=some e→∃ e0,hk k h=some e0)∧∀ k,k.2 < E.V→leE (fun k=>hk k h'') (hk k h'') (hk k h'))) : RetK P f args h K:=by
 obtain ⟨fn,c0,hf,hc,hb,rfl,htm,hrs⟩:=mfOf_spec hm
 refine ⟨hc,fun E a c w vs d s hP hg hr=>?_⟩
 subst hP
 obtain ⟨N,hN⟩:=hg.bnd
 have hV : ∀ k e,hk k h=some e→k.2 < N:=fun k e he=>hN k (hg.heap k e he).1
 refine calls_of_wp hf hb ?_
 refine wp_mono (exec_sound (E:=⟨E.P,E.w0,E.F0,fn.ntmps,ghostOf E s a,N,E.glob⟩) hmix c0 m _ _ w _ htm ⟨c,inl_begin hg hr hn⟩ (hx _ rfl hV)) ?_
 rintro e a' w' ⟨ex,st',rfl,hq,c',hg'⟩
 have key : ∀ q : resOk st' rs∧∃ h',K (resAll st' rs) h'∧(∀ k e,hk k h'=some e→∃ e0,hk k h=some e0)∧∀ k,k.2 < N→leE (fun k=>hk k st'.h) (hk k st'.h) (hk k h'),a'.defers=[]∧∃ v,(results fn a'.tmps).run E.P w'=.ok v w'∧∃ v',Ending.returned v=.returned v'∧∃ r h' c'',K r h'∧Good E ⟨putS d r s,h'⟩ c'' (a.put d v') w':=by
  rintro ⟨q1,h',q0,hold,q2⟩
  obtain ⟨v,k1,k2⟩:=resAll_run hg' hrs q1
  refine ⟨hg'.defers.trans (dfs_ghost E s a),v,k1,v,rfl,_,h',c',q0,(inl_end hg hg' k2).leH fun k=>?_⟩
  cases he : hk k h' with
  | none=>cases hk k st'.h <;> trivial
  | some e =>
    obtain ⟨e0,he0⟩:=hold k e he
    have:=q2 k (hV k e0 he0)
    rw [he] at this
    exact this
 cases ex with
 | normal=>exact key hq
 | ret=>exact key hq
 | exit id=>exact hq.elim
 | goto l=>exact hq.elim
end Go.Proofs.YtnlfgnelfooljaaGreatDoor.Pv
namespace Go.Proofs.YtnlfgnelfooljaaGreatDoor.Pv
open Go Go.RowKit
section
variable {E : Env} {h : List (Key × Option HE)} {c : Ctx} {w : World}
theorem HRep.drew' {k : Key} {e : HE} (h : HRep w c k e) : HRep w.drew c k e:=by
 obtain ⟨h1,h2,h3⟩:=h
 refine ⟨h1,h2,?_⟩
 cases hb : c.β k with
 | none=>rw [hb] at h3; exact h3
 | some ad =>
   rw [hb] at h3
   obtain ⟨b1,b2,b3,b4⟩:=h3
   refine ⟨b1,b2,?_,b4⟩
   split
   ·rename_i hx
    rw [if_pos hx] at b3
    exact RepRows.mono (w:=w) (w':=w.drew) _ _ rfl _ _ (mono_drew w) (Ctx.Le.refl _) b3
   ·rename_i hx
    rw [if_neg hx] at b3
    exact RepRows.mono (w:=w) (w':=w.drew) _ _ rfl _ _ (c:=c.d) (mono_drew w) (Ctx.Le.refl _) b3
theorem HGood.drew (hg : HGood E h c w) : HGood E h c w.drew :=
 ⟨fun k e he=>(hg.heap k e he).drew',hg.fresh,hg.apart,hg.fz,hg.le,hg.bnd,hg.below.drew⟩
end
end Go.Proofs.YtnlfgnelfooljaaGreatDoor.Pv
namespace Go.Proofs.YtnlfgnelfooljaaGreatDoor.Pv
open Go Go.RowKit
def trunc (w : World) (B : Nat) : World:={ w with heap:=w.heap.extract 0 B }
theorem trunc_size {w : World} {B : Nat} (h : B≤w.heap.size) : (trunc w B).heap.size=B:=by simp [trunc,Nat.min_eq_left h]
theorem trunc_heap (w : World) (B : Nat) {k : Nat} (hk : k < B) : (trunc w B).heap[k]? = w.heap[k]? := by
 simp only [trunc,Array.getElem?_extract]
 split
 ·simp
 ·rename_i h
  rw [Array.getElem?_eq_none (by omega)]
theorem trunc_below (w : World) (B : Nat) (hB : B≤w.heap.size) : Bel B (trunc w B) w :=
 Bel.of ⟨rfl,rfl,rfl,by rw [trunc_size hB]; exact hB,fun k hk=>(trunc_heap w B hk).symm⟩
section
variable {E : Env} {st : St} {c : Ctx} {a : Act} {w w' : World} {B : Nat}
theorem Good.gok (hg : Good E st c a w) (hB : E.w0.heap.size≤B) (hBw : B≤w'.heap.size) (hm : Mono c.Fz w w') : GOk E.P (trunc w' B) (fun b=>c.Fz b∧b < B):=by
 have e : ∀ g,E.F0 g→g < E.w0.heap.size→(trunc w' B).heap[g]? = E.w0.heap[g]? := fun g h2 h1=>by
  rw [trunc_heap w' B (Nat.lt_of_lt_of_le h1 hB),hm.same g (hg.le g h2),hg.below.block g h1]
 refine ⟨fun g cs hgt=>?_,fun t ht g hgt=>?_,fun n hn g hgt=>?_⟩
 ·obtain ⟨h1,h2,h3⟩:=E.glob.1 g cs hgt
  refine ⟨by rw [trunc_size hBw]; omega,⟨hg.le g h2,by omega⟩,fun j n hj=>?_⟩
  obtain ⟨h4,h5⟩:=h3 j n hj
  exact ⟨by rw [← h4]; exact cell_of_heap (e g h2 h1) j,h5⟩
 ·obtain ⟨h1,h2,h3⟩:=E.glob.2.1 t ht g hgt
  exact ⟨by rw [trunc_size hBw]; omega,⟨hg.le g h2,by omega⟩,tab_heap hgt (e g h2 h1) h3⟩
 ·obtain ⟨h1,h2,m,h3⟩:=E.glob.2.2 n hn g hgt
  exact ⟨by rw [trunc_size hBw]; omega,⟨hg.le g h2,by omega⟩,m,by rw [← h3]; exact cell_of_heap (e g h2 h1) 0⟩
theorem Good.rebase (hg : Good E st c a w) (hB : E.w0.heap.size≤B) (hBw : B≤w'.heap.size) (hm : Mono c.Fz w w') (ho : ∀ k e ad,hk k st.h=some e→c.β k=some ad→B≤ad.block∧w'.heap[ad.block]? = w.heap[ad.block]?) :
 Good ⟨E.P,trunc w' B,fun b=>c.Fz b∧b < B,E.nt,E.G,E.V,hg.gok hB hBw hm⟩ st c a w' where
 defers:=hg.defers
 size:=hg.size
 slot:=fun t v hv=>RepV.mono _ _ hm (Ctx.Le.refl c) (hg.slot t v hv)
 heap:=fun k e he=>(hg.heap k e he).mono hm (Ctx.Le.refl c) (fun _ _=>Iff.rfl) (fun ad had=>(ho k e ad he had).2)
 fresh:=fun k e ad he had=>⟨by show (trunc w' B).heap.size≤_; rw [trunc_size hBw]; exact (ho k e ad he had).1,Nat.lt_of_lt_of_le (hg.fresh k e ad he had).2 hm.size⟩
 apart:=hg.apart
 fz:=fun b hb=>⟨Nat.lt_of_lt_of_le (hg.fz b hb).1 hm.size,by
  show (c.Fz b∧b < B)∨(trunc w' B).heap.size≤b
  rw [trunc_size hBw]
  rcases Nat.lt_or_ge b B with h | h
  ·exact .inl ⟨hb,h⟩
  ·exact .inr h⟩
 le:=fun b hb=>hb.1
 bnd:=hg.bnd
 below:=by show Bel (trunc w' B).heap.size (trunc w' B) w'; rw [trunc_size hBw]; exact trunc_below w' B hBw
 ghost:=fun p hp=>RepV.mono _ _ hm (Ctx.Le.refl c) (hg.ghost p hp)
end
end Go.Proofs.YtnlfgnelfooljaaGreatDoor.Pv
namespace Go.Proofs.YtnlfgnelfooljaaGreatDoor.Pv
open Go Go.RowKit
section
variable {P : Program} {a : Act} {w : World} {Q : Exit→Act→World→Prop}
theorem wp_scope_ghost {c rest : Code} (l : Nat) (J : Nat→Act→World→Prop) (hf : findLabel c l=some rest)
 (first : c.wp P (Exit.jump l (fun a w=>∃ n,J n a w) Q) a w)
 (pass : ∀ n a w,J n a w→rest.wp P (Exit.jump l (fun a' w'=>∃ m,m < n∧J m a' w') Q) a w) : (Code.scope c).wp P Q a w:=by
 intro b k cs
 have hg : gotoIn l (.inScope c::k)=some (.code rest::.inScope c::k):=by simp [gotoIn,hf]
 have key : ∀ n a w,J n a w→∃ e a' w',Q e a' w'∧Arrives P (lone (b.at a (.code rest::.inScope c::k)) cs w) b k cs e a' w':=by
  intro n
  induction n using Nat.strongRecOn with
  | _ n ih =>
    intro a w hJ
    obtain ⟨e,a₁,w₁,hq,harr⟩:=pass n a w hJ b (.inScope c::k) cs
    cases e with
    | normal=>exact ⟨.normal,a₁,w₁,hq,Steps.trans harr (.one step_inScope)⟩
    | exit id=>exact ⟨.exit id,a₁,w₁,hq,fun k' hk=>harr k' (by simp [exitTo,hk])⟩
    | goto l' =>
      obtain ⟨rfl,m,hlt,hJ'⟩:=hq
      obtain ⟨e₂,a₂,w₂,hq₂,harr₂⟩:=ih m hlt a₁ w₁ hJ'
      exact ⟨e₂,a₂,w₂,hq₂,.of_steps (harr _ hg) harr₂⟩
    | ret=>exact ⟨_,a₁,w₁,hq,harr⟩
    | panic ch=>exact ⟨_,a₁,w₁,hq,harr⟩
    | outgrown=>exact ⟨_,a₁,w₁,hq,harr⟩
 obtain ⟨e,a₁,w₁,hq,harr⟩:=first b (.inScope c::k) cs
 cases e with
 | normal=>exact ⟨.normal,a₁,w₁,hq,.head step_scope (Steps.trans harr (.one step_inScope))⟩
 | exit id=>exact ⟨.exit id,a₁,w₁,hq,fun k' hk=>.head step_scope (harr k' (by simp [exitTo,hk]))⟩
 | goto l' =>
   obtain ⟨rfl,n,hJ'⟩:=hq
   obtain ⟨e₂,a₂,w₂,hq₂,harr₂⟩:=key n a₁ w₁ hJ'
   exact ⟨e₂,a₂,w₂,hq₂,.of_steps (.head step_scope (harr _ hg)) harr₂⟩
 | ret=>exact ⟨_,a₁,w₁,hq,.of_steps (.one step_scope) harr⟩
 | panic ch=>exact ⟨_,a₁,w₁,hq,.of_steps (.one step_scope) harr⟩
 | outgrown=>exact ⟨_,a₁,w₁,hq,.of_steps (.one step_scope) harr⟩
end
theorem toMC_region {P : Program} {nt : Nat} {i : Nat} {ops : Array Oper} {d : Bool} {m : MC} (h : toMC P nt (.region i ops d)=some m) : (∃ ms,m=.reg ms)∨∃ un ms,m=.draw un ms:=by
 simp only [toMC] at h
 split at h
 ·split at h
  ·split at h
   ·exact .inr ⟨_,_,(Option.some.inj h).symm⟩
   ·cases h
  ·exact .inl ⟨_,(Option.some.inj h).symm⟩
 ·cases h
theorem toMC_seq {P : Program} {nt : Nat} {c : Code} {m n : MC} (h : toMC P nt c=some (.seq m n)) : ∃ x y,c=.seq x y∧toMC P nt x=some m∧toMC P nt y=some n:=by
 cases c with
 | seq x y =>
   simp only [toMC] at h
   split at h
   ·rename_i h1 h2
    cases h
    exact ⟨x,y,rfl,h1,h2⟩
   ·cases h
 | region i ops d=>rcases toMC_region h with ⟨_,h⟩ | ⟨_,_,h⟩ <;> cases h
 | cond q x y=>simp only [toMC] at h; split at h <;> cases h
 | loop x=>simp [toMC] at h
 | block id x=>simp [toMC] at h
 | scope x=>simp [toMC] at h
 | _=>simp [toMC] at h
theorem toMC_scope {P : Program} {nt : Nat} {c : Code} {m : MC} (h : toMC P nt c=some (.scope m)) : ∃ x,c=.scope x∧toMC P nt x=some m:=by
 cases c with
 | scope x =>
   simp only [toMC,Option.map_eq_some_iff,MC.scope.injEq,exists_eq_right] at h
   exact ⟨x,rfl,h⟩
 | seq x y=>simp only [toMC] at h; split at h <;> cases h
 | region i ops d=>rcases toMC_region h with ⟨_,h⟩ | ⟨_,_,h⟩ <;> cases h
 | cond q x y=>simp only [toMC] at h; split at h <;> cases h
 | loop x=>simp [toMC] at h
 | block id x=>simp [toMC] at h
 | _=>simp [toMC] at h
theorem toMC_label {P : Program} {nt : Nat} {c : Code} {l : Nat} (h : toMC P nt c=some (.label l)) : c=.label l:=by
 cases c with
 | label x =>
   simp only [toMC,Option.some.injEq,MC.label.injEq] at h
   rw [h]
 | seq x y=>simp only [toMC] at h; split at h <;> cases h
 | region i ops d=>rcases toMC_region h with ⟨_,h⟩ | ⟨_,_,h⟩ <;> cases h
 | cond q x y=>simp only [toMC] at h; split at h <;> cases h
 | loop x=>simp [toMC] at h
 | block id x=>simp [toMC] at h
 | scope x=>simp [toMC] at h
 | _=>simp [toMC] at h
def noLab : MC→Bool
 | .seq a b=>noLab a&&noLab b
 | .label _=>false
 | _=>true
theorem noLab_find {P : Program} {nt : Nat} (l : Nat) : ∀ (c : Code) (m : MC),toMC P nt c=some m→noLab m=true→findLabel c l=none
 | .seq x y,m,h,hn=>by
   simp only [toMC] at h
   split at h
   ·rename_i m1 m2 h1 h2
    cases h
    simp only [noLab,Bool.and_eq_true] at hn
    simp only [findLabel,noLab_find l x m1 h1 hn.1,noLab_find l y m2 h2 hn.2]
   ·cases h
 | .label k,m,h,hn=>by
   simp only [toMC,Option.some.injEq] at h
   subst h
   simp [noLab] at hn
 | .skip,_,_,_ | .region _ _ _,_,_,_ | .cond _ _ _,_,_,_ | .block _ _,_,_,_ | .loop _,_,_,_ | .exit _,_,_,_ | .ret,_,_,_ | .scope _,_,_,_ | .goto _,_,_,_ | .rangeFunc _ _ _ _,_,_,_ | .refuse _,_,_,_=>rfl
section
variable {E : Env} {A R : MC} {st st' : St} {ks : List KF} {Q : Ex→St→Prop} {ι : Type} {id : Nat}
def AQ (E : Env) (ts : List (Nat × Nat × Nat)) (S : Nat→ι→St) (J : ι→Prop) (ks : List KF) (Q : Ex→St→Prop) : Ex→St→Prop
 | .normal,st'=>∃ j,J j∧∀ v,LS (canonF ts v st') (S v j)
 | .goto _,_=>False
 | e,st'=>XE E e st' ks Q
def SQ (E : Env) (l : Nat) (ts : List (Nat × Nat × Nat)) (S : Nat→ι→St) (J : ι→Prop) (μ : ι→Nat) (i : ι) (ks : List KF) (Q : Ex→St→Prop) : Ex→St→Prop
 | .goto l',st'=>l'=l∧∃ j,J j∧μ j < μ i∧∀ v,LS (canonF ts v st') (S v j)
 | e,st'=>XE E e st' ks Q
variable {l l' : Nat} {ts : List (Nat × Nat × Nat)} {S : Nat→ι→St} {J : ι→Prop} {μ : ι→Nat} {i : ι}
theorem SQ_normal : SQ E l ts S J μ i ks Q .normal st'=XE E .normal st' ks Q:=propext Iff.rfl
theorem SQ_exit : SQ E l ts S J μ i ks Q (.exit id) st'=XE E (.exit id) st' ks Q:=propext Iff.rfl
theorem SQ_ret : SQ E l ts S J μ i ks Q .ret st'=XE E .ret st' ks Q:=propext Iff.rfl
theorem SQ_goto : SQ E l ts S J μ i ks Q (.goto l') st'=(l'=l∧∃ j,J j∧μ j < μ i∧∀ v,LS (canonF ts v st') (S v j)):=propext Iff.rfl
theorem AQ_normal : AQ E ts S J ks Q .normal st'=∃ j,J j∧∀ v,LS (canonF ts v st') (S v j):=propext Iff.rfl
theorem AQ_exit : AQ E ts S J ks Q (.exit id) st'=XE E (.exit id) st' ks Q:=propext Iff.rfl
theorem AQ_ret : AQ E ts S J ks Q .ret st'=XE E .ret st' ks Q:=propext Iff.rfl
attribute [simp] AQ_normal AQ_exit AQ_ret
attribute [simp] SQ_normal SQ_exit SQ_ret SQ_goto
theorem XLoop.scope (hmix : E.P.follows .mixedOrders=true) (ts : List (Nat × Nat × Nat)) (hts : tagsOk ts=true) (l : Nat) (S : Nat→ι→St) (J : ι→Prop) (μ : ι→Nat) (hA : noLab A.erase=true)
 (h1 : XC E A st [] (AQ E ts S J ks Q)) (h2 : ∀ v j,E.V≤v→J j→XC E R (S v j) [] (SQ E l ts S J μ j ks Q)) : XLoop E (.scope (.seq A (.seq (.label l) R))) st ks Q:=by
 intro c hm a w hrel
 obtain ⟨x,rfl,hx⟩:=toMC_scope hm
 obtain ⟨ca,cb,rfl,ha,hb⟩:=toMC_seq hx
 obtain ⟨cl,cr,rfl,hl,hr⟩:=toMC_seq hb
 obtain rfl:=toMC_label hl
 have hfind : findLabel (.seq ca (.seq (.label l) cr)) l=some (.seq .skip cr):=by
  simp [findLabel,noLab_find l ca _ ha hA]
 have hpass : ∀ v j a w,E.V≤v→J j→Rel E (S v j) a w→cr.wp E.P (Exit.jump l (fun a' w'=>∃ m,m < μ j∧∃ v' j',E.V≤v'∧J j'∧μ j'=m∧Rel E (S v' j') a' w') (fun e a' w'=>∃ ex st',e=Ex.to ex∧contF E ks Q ex st'∧Rel E st' a' w')) a w:=fun v j a w hv hj hrel=>by
  refine wp_mono (exec_sound hmix cr R (S v j) a w _ hr hrel (h2 v j hv hj)) ?_
  rintro e a' w' ⟨ex,st',rfl,hq,hr'⟩
  cases ex with
  | normal=>exact ⟨.normal,st',rfl,hq,hr'⟩
  | exit id=>exact ⟨.exit id,st',rfl,hq,hr'⟩
  | ret=>exact ⟨.ret,st',rfl,hq,hr'⟩
  | goto l' =>
    obtain ⟨e1,j',k1,k2,k3⟩:=hq
    obtain ⟨v',hv',hc'⟩:=canonF_rel ts hts hr'
    exact ⟨e1,μ j',k2,v',j',hv',k1,rfl,(k3 v').le a' w' hc'⟩
 refine wp_scope_ghost l (fun n a w=>∃ v j,E.V≤v∧J j∧μ j=n∧Rel E (S v j) a w) hfind ?_ ?_
 ·refine wp_seq (wp_mono (exec_sound hmix ca A st a w _ ha hrel h1) ?_)
  rintro e a' w' ⟨ex,st',rfl,hq,hr'⟩
  cases ex with
  | normal =>
    obtain ⟨j,k1,k3⟩:=hq
    obtain ⟨v,hv,hc'⟩:=canonF_rel ts hts hr'
    refine wp_seq (wp_label (wp_mono (hpass v j a' w' hv k1 ((k3 v).le a' w' hc')) ?_))
    rintro e a2 w2 hq2
    cases e with
    | goto l' =>
      obtain ⟨e1,m,_,hJm⟩:=hq2
      exact ⟨e1,m,hJm⟩
    | _=>exact hq2
  | exit id=>exact ⟨.exit id,st',rfl,hq,hr'⟩
  | ret=>exact ⟨.ret,st',rfl,hq,hr'⟩
  | goto l'=>exact hq.elim
 ·rintro n a w ⟨v,j,hv,hj,rfl,hrel⟩
  exact wp_seq (wp_skip (hpass v j a w hv hj hrel))
def LX (E : Env) (n : Nat) (S : Nat→St) (id0 : Nat) (Sx : St) (k : Nat) (ks : List KF) (Q : Ex→St→Prop) : Ex→St→Prop
 | .normal,st'=>k < n∧∀ v,LS (canonF [] v st') (S (k+1))
 | .exit j,st'=>j=id0∧∀ v,LS (canonF [] v st') Sx
 | e,st'=>XE E e st' ks Q
section
variable {n k id0 j : Nat} {S0 : Nat→St} {Sx : St} {body : MC}
theorem LX_normal : LX E n S0 id0 Sx k ks Q .normal st'=(k < n∧∀ v,LS (canonF [] v st') (S0 (k+1))):=propext Iff.rfl
theorem LX_exit : LX E n S0 id0 Sx k ks Q (.exit j) st'=(j=id0∧∀ v,LS (canonF [] v st') Sx):=propext Iff.rfl
theorem LX_ret : LX E n S0 id0 Sx k ks Q .ret st'=XE E .ret st' ks Q:=propext Iff.rfl
attribute [simp] LX_normal LX_exit LX_ret
end
end
end Go.Proofs.YtnlfgnelfooljaaGreatDoor.Pv
set_option maxRecDepth 100000
namespace Go.Proofs.YtnlfgnelfooljaaGreatDoor.Pv
open Go Go.Tidy
def hasP (s p : S) : Bool:=decide (p.size≤s.size)&&sEq (s.extract 0 p.size) p
theorem c_stringslite_HasPrefix (s p : S) : Ret prog M.F_stringslite_HasPrefix [.str s,.str p] (.bool (hasP s p)):=by
 refine Ret.go hmix h_stringslite_HasPrefix (by simp) fun hb w0 F0 hG=>?_
 unfold hasP
 by_cases h : p.size≤s.size
 ·simp [h]
 ·simp [h]
theorem c_strings_TrimPrefix (s p : S) : Ret prog M.F_strings_TrimPrefix [.str s,.str p] (.str (if hasP s p then s.extract p.size s.size else s)):=by
 have c1:=c_stringslite_HasPrefix s p
 have c2 : Ret prog M.F_stringslite_TrimPrefix [.str s,.str p] (.str (if hasP s p then s.extract p.size s.size else s)):=by
  refine Ret.go hmix h_stringslite_TrimPrefix (by simp) fun hb w0 F0 hG=>?_
  have hh : hasP s p=true→p.size≤s.size:=fun h=>by
   unfold hasP at h
   simp at h; exact h.1
  cases e : hasP s p
  ·rw [e] at c1
   simp
   refine XCall.ret (by first | exact c1 | (simpa using c1)) ?_
   simp
  ·rw [e] at c1
   have:=hh e
   simp
   refine XCall.ret (by first | exact c1 | (simpa using c1)) ?_
   simp [this]
 refine Ret.go hmix h_strings_TrimPrefix (by simp) fun hb w0 F0 hG=>?_
 simp
 refine XCall.ret (by first | exact c2 | (simpa using c2)) ?_
 simp
theorem trim_size (s : S) : (if hasP s ⟨#[45]⟩ then s.extract (⟨#[45]⟩ : S).size s.size else s).size=(digs s).length:=by
 have h1 : (⟨#[45]⟩ : S).size=1:=rfl
 rw [h1]
 have hd : s.size=s.data.toList.length:=rfl
 unfold hasP digs neg
 rw [h1]
 obtain ⟨d⟩:=s
 cases hl : d.toList with
 | nil =>
   have h0 : (⟨d⟩ : S).size=0:=by
    have : (⟨d⟩ : S).size=d.toList.length:=rfl
    rw [this,hl]; rfl
   simp [h0,hl]
 | cons c l =>
   have h0 : (⟨d⟩ : S).size=l.length+1:=by
    have : (⟨d⟩ : S).size=d.toList.length:=rfl
    rw [this,hl]; rfl
   have e1 : ((⟨d⟩ : S).extract 0 1).data.toList=[c]:=by
    rw [Lib.extract_from_zero]
    simp [hl]
   have e2 : sEq ((⟨d⟩ : S).extract 0 1) ⟨#[45]⟩=(c == 45):=by
    unfold sEq
    rw [e1]
    simp
   rw [e2,h0]
   by_cases hc : c=45
   ·subst hc
    simp [hl]
    rw [h0]
    omega
   ·simp [hl,hc,h0]
theorem set_vals {l : List Val} {k : Nat} (hk : k < l.length) : (l.map encVal).set k (cV l[k])=l.map encVal:=by
 rw [← encVal_eq,← List.map_set,List.set_getElem_self]
set_option maxHeartbeats 8000000 in
theorem weight_walk (v : Val) (hw : weightV v≤4611686018427387904) (h : ∀ x ∈ v.items,Ret prog M.F_value_Weight [.agg (cV x)] (.int .i64 (weightV x))) : Ret prog M.F_value_Weight [.agg (cV v)] (.int .i64 (weightV v)):=by
 have cT:=c_strings_TrimPrefix v.num ⟨#[45]⟩
 have hT:=trim_size v.num
 generalize (if hasP v.num ⟨#[45]⟩ then v.num.extract (⟨#[45]⟩ : S).size v.num.size else v.num)=N at *
 refine Ret.go hmix h_value_Weight (by simp) fun hb w0 F0 hG=>?_
 simp only [bndL,bndV,List.length_map,LIM,and_true] at hb
 have hD:=weightV_def v
 rw [← hT] at hD
 generalize hWW : weightV v=W at *
 have b1 : N.size≤4611686018427387904:=by omega
 have b2 : v.text.size≤4611686018427387904:=by omega
 have w1:=wrap64 (n:=(1 : Int)+N.size) (by omega) (by omega)
 have w2:=wrap64 (n:=(1 : Int)+N.size+v.text.size) (by omega) (by omega)
 have e2 : (1 : Int)+N.size+v.text.size=((1+N.size+v.text.size : Nat) : Int):=by omega
 simp
 intro v1 v2
 refine XDCall.ret (by first | exact cT | (simpa using cT)) ?_
 simp [w1,w2]
 rw [e2]
 obtain ⟨J,hJ⟩ : ∃ J : Nat→Nat→Prop,J=fun k g=>g=1+N.size+v.text.size+((v.keys.map fun k=>1+k.size).take k).sum:=⟨_,rfl⟩
 refine XLoop.cnt hmix v.keys.length (fun k g=>⟨[(20,.int .i64 k),(19,.int .i64 v.keys.length),(18,.vec 1 false (v.keys.map encStr)),(3,.int .i64 (g : Nat)),(1,.ptr (1,v1) 5 0 0)],[((1,v1),some ⟨5,[cV v],false,true⟩)]⟩) J (1+N.size+v.text.size) (by rw [hJ]; simp) (by simp) fun k g hk hj=>?_
 have hw1:=wrap64 (n:=(k : Int)+1) (by omega) (by omega)
 have hj' : g=1+N.size+v.text.size+((v.keys.map fun k=>1+k.size).take k).sum:=by rw [hJ] at hj; exact hj
 by_cases g1 : k < v.keys.length
 ·have hs:=sum_take_succ (l:=v.keys.map fun k=>1+k.size) (k:=k) (by simpa using g1)
  have hle:=sum_take_le (v.keys.map fun k=>1+k.size) (k+1)
  simp only [List.getElem_map] at hs
  have hn : J (k+1) (g+(1+(v.keys[k]).size)):=by rw [hJ]; show _=_; omega
  have w3:=wrap64 (n:=(1 : Int)+(v.keys[k]).size) (by omega) (by omega)
  have e4 : (g : Int)+(1+(v.keys[k]).size)=((g+(1+(v.keys[k]).size) : Nat) : Int):=by omega
  have w4:=wrap64 (n:=((g+(1+(v.keys[k]).size) : Nat) : Int)) (by omega) (by omega)
  simp [g1,w3]
  rw [e4,w4]
  simp [hw1]
  exact ⟨_,hn,by omega⟩
 ·have hsum : ((v.keys.map fun k=>1+k.size).take k).sum=(v.keys.map fun k=>1+k.size).sum:=by rw [List.take_of_length_le (by simp; omega)]
  rw [hsum] at hj'
  simp [g1]
  obtain ⟨J2,hJ2⟩ : ∃ J : Nat→Nat→Prop,J=fun k x=>x=g+((v.items.map weightV).take k).sum:=⟨_,rfl⟩
  refine XLoop.cnt hmix v.items.length (fun k x=>⟨[(33,.int .i64 k),(32,.int .i64 v.items.length),(31,.vec 5 false (v.items.map encVal)),(3,.int .i64 (x : Nat)),(1,.ptr (1,v1) 5 0 0)],[((1,v1),some ⟨5,[cV v],false,true⟩)]⟩) J2 g (by rw [hJ2]; simp) (by simp) fun k x hk2 hj2=>?_
  have hw2:=wrap64 (n:=(k : Int)+1) (by omega) (by omega)
  have hj2' : x=g+((v.items.map weightV).take k).sum:=by rw [hJ2] at hj2; exact hj2
  by_cases g2 : k < v.items.length
  ·have c1:=h _ (List.getElem_mem g2)
   have hs:=sum_take_succ (l:=v.items.map weightV) (k:=k) (by simpa using g2)
   have hle:=sum_take_le (v.items.map weightV) (k+1)
   simp only [List.getElem_map] at hs
   have hn : J2 (k+1) (x+weightV v.items[k]):=by rw [hJ2]; show _=_; omega
   have e4 : (x : Int)+weightV v.items[k]=((x+weightV v.items[k] : Nat) : Int):=by omega
   have w4:=wrap64 (n:=((x+weightV v.items[k] : Nat) : Int)) (by omega) (by omega)
   simp [g2]
   intros
   refine XCall.ret (by first | exact c1 | (simpa using c1)) ?_
   simp
   rw [e4,w4]
   simp [hw2]
   exact ⟨g2,_,hn,by omega⟩
  ·have hsum2 : ((v.items.map weightV).take k).sum=(v.items.map weightV).sum:=by rw [List.take_of_length_le (by simp; omega)]
   rw [hsum2] at hj2'
   have : x=W:=by omega
   simp [g2,this]
theorem c_value_Weight (v : Val) (hw : weightV v≤4611686018427387904) : Ret prog M.F_value_Weight [.agg (cV v)] (.int .i64 (weightV v)):=by
 induction hn : SizeOf.sizeOf v using Nat.strongRecOn generalizing v with
 | _ n ih =>
   subst hn
   exact weight_walk v hw fun x hx=>ih _ (val_sz hx) x (by have:=weight_item hx; omega) rfl
theorem c_slices_Clone_str (fl : Bool) (xs : List (List PV)) (hx : xs.length≤68719476736) : RetO prog M.F_slices_Clone_string [.vec 1 fl xs] 1 xs:=by
 refine RetO.go hmix h_slices_Clone_string (by simp) fun hb w0 F0 hG=>?_
 simp
 omega
theorem c_slices_Clone_Value (fl : Bool) (xs : List (List PV)) (hx : xs.length≤68719476736) : RetO prog M.F_slices_Clone_Value [.vec 5 fl xs] 5 xs:=by
 refine RetO.go hmix h_slices_Clone_Value (by simp) fun hb w0 F0 hG=>?_
 simp
 omega
@[simp] theorem take_mapV {α β : Type} (f : α→β) (l : List α) : (l.map f).take l.length=l.map f:=List.take_of_length_le (by simp)
abbrev twV (v : Val) (a : PV) : List PV:=[.int .i64 v.kind,.str v.num,.str v.text,a,.vec 1 false (v.keys.map encStr)]
set_option maxHeartbeats 8000000 in
theorem twin_walk (v : Val) (h1 : v.items.length≤68719476736) (h2 : v.keys.length≤68719476736) (h : ∀ x ∈ v.items,Ret prog M.F_value_Twin [.agg (cV x)] (.agg (cV x))) : Ret prog M.F_value_Twin [.agg (cV v)] (.agg (cV v)):=by
 have cK:=c_slices_Clone_str false (v.keys.map encStr) (by simpa using h2)
 have cI:=c_slices_Clone_Value false (v.items.map encVal) (by simpa using h1)
 refine Ret.go hmix h_value_Twin (by simp) fun hb w0 F0 hG=>?_
 simp
 intro v1 v2
 refine XCall.retO (by first | exact cK | (simpa using cK)) ?_
 simp
 intro v3
 refine XCall.retO (by first | exact cI | (simpa using cI)) ?_
 simp
 intro v4
 refine XLoop.anew [(4000001,5,1007)] rfl (fun u=>⟨[(15,.int .i64 0),(14,.int .i64 v.items.length),(2,.ptr (2,v2) 5 0 0),(1,.ptr (1,v1) 5 0 0)],[((1,v1),some ⟨5,[twV v (.own (1007,u) 5 0 v.items.length false)],false,true⟩),((1007,u),some ⟨5,v.items.map encVal,false,false⟩),((2,v2),some ⟨5,[M.z3],false,true⟩)]⟩) (fun u=>by simp) fun u hu=>?_
 refine XLoop.cnt hmix v.items.length (fun k (_ : Unit)=>⟨[(15,.int .i64 k),(14,.int .i64 v.items.length),(2,.ptr (2,v2) 5 0 0),(1,.ptr (1,v1) 5 0 0)],[((1,v1),some ⟨5,[twV v (.own (1007,u) 5 0 v.items.length false)],false,true⟩),((1007,u),some ⟨5,v.items.map encVal,false,false⟩),((2,v2),some ⟨5,[M.z3],false,true⟩)]⟩) (fun _ _=>True) () trivial (by simp) fun k _ hk _=>?_
 have hw:=wrap64 (n:=(k : Int)+1) (by omega) (by omega)
 by_cases g1 : k < v.items.length
 ·have c1:=h _ (List.getElem_mem g1)
  have hs:=set_vals g1
  simp [g1]
  intros
  refine XDCall.ret (by first | exact c1 | (simpa using c1)) ?_
  simp [g1,hw,hs,leR_refl]
 ·simp [g1]
theorem len_le_weight (v : Val) : v.items.length≤weightV v∧v.keys.length≤weightV v:=by
 have h1 : ∀ l : List Val,l.length≤(l.map weightV).sum:=fun l=>by
  induction l with
  | nil=>simp
  | cons x l ih =>
    have : 1≤weightV x:=by rw [weightV_def]; omega
    simp; omega
 have h2 : ∀ l : List S,l.length≤(l.map fun k=>1+k.size).sum:=fun l=>by
  induction l with
  | nil=>simp
  | cons x l ih=>simp; omega
 have a:=h1 v.items
 have b:=h2 v.keys
 rw [weightV_def v]
 omega
theorem c_value_Twin (v : Val) (hw : weightV v≤68719476736) : Ret prog M.F_value_Twin [.agg (cV v)] (.agg (cV v)):=by
 induction hn : SizeOf.sizeOf v using Nat.strongRecOn generalizing v with
 | _ n ih =>
   subst hn
   have:=len_le_weight v
   exact twin_walk v (by omega) (by omega) fun x hx=>ih _ (val_sz hx) x (by have:=weight_item hx; omega) rfl
end Go.Proofs.YtnlfgnelfooljaaGreatDoor.Pv
set_option maxRecDepth 100000
namespace Go.Proofs.YtnlfgnelfooljaaGreatDoor.Pv
open Go Go.RowKit Go.Maps
def primT : List (ByteArray × Nat):=[(⟨#[108,101,110,103,116,104,47,48]⟩,M.F_prim_input_length),
 (⟨#[117,116,102,56,98,121,116,101,108,101,110,103,116,104,47,48]⟩,M.F_prim_input_bytes),
 (⟨#[110,111,116,47,48]⟩,M.F_prim_input_not),
 (⟨#[107,101,121,115,47,48]⟩,M.F_prim_input_keys),
 (⟨#[104,97,115,47,49]⟩,M.F_prim_input_has),
 (⟨#[99,111,110,116,97,105,110,115,47,49]⟩,M.F_prim_input_contains),
 (⟨#[116,121,112,101,47,48]⟩,M.F_prim_input_kind),
 (⟨#[116,111,115,116,114,105,110,103,47,48]⟩,M.F_prim_input_str),
 (⟨#[116,111,110,117,109,98,101,114,47,48]⟩,M.F_prim_input_number),
 (⟨#[116,111,106,115,111,110,47,48]⟩,M.F_prim_input_json),
 (⟨#[102,114,111,109,106,115,111,110,47,48]⟩,M.F_prim_input_read),
 (⟨#[97,115,99,105,105,95,100,111,119,110,99,97,115,101,47,48]⟩,M.F_prim_input_lower),
 (⟨#[97,115,99,105,105,95,117,112,99,97,115,101,47,48]⟩,M.F_prim_input_upper),
 (⟨#[101,120,112,108,111,100,101,47,48]⟩,M.F_prim_input_explode),
 (⟨#[105,109,112,108,111,100,101,47,48]⟩,M.F_prim_input_implode),
 (⟨#[115,116,97,114,116,115,119,105,116,104,47,49]⟩,M.F_prim_input_starts),
 (⟨#[101,110,100,115,119,105,116,104,47,49]⟩,M.F_prim_input_ends),
 (⟨#[108,116,114,105,109,115,116,114,47,49]⟩,M.F_prim_input_ltrim),
 (⟨#[114,116,114,105,109,115,116,114,47,49]⟩,M.F_prim_input_rtrim),
 (⟨#[115,112,108,105,116,47,49]⟩,M.F_prim_input_split),
 (⟨#[106,111,105,110,47,49]⟩,M.F_prim_input_join),
 (⟨#[105,110,100,105,99,101,115,47,49]⟩,M.F_prim_input_indices),
 (⟨#[114,101,118,101,114,115,101,47,48]⟩,M.F_prim_input_reverse),
 (⟨#[115,111,114,116,47,48]⟩,M.F_prim_input_sort),
 (⟨#[95,115,111,114,116,95,98,121,47,49]⟩,M.F_prim_input_sortBy),
 (⟨#[95,103,114,111,117,112,95,98,121,47,49]⟩,M.F_prim_input_groupBy),
 (⟨#[95,117,110,105,113,117,101,95,98,121,47,49]⟩,M.F_prim_input_uniqueBy),
 (⟨#[95,109,105,110,95,98,121,47,49]⟩,M.F_prim_input_minBy),
 (⟨#[95,109,97,120,95,98,121,47,49]⟩,M.F_prim_input_maxBy),
 (⟨#[109,105,110,47,48]⟩,M.F_prim_input_least),
 (⟨#[109,97,120,47,48]⟩,M.F_prim_input_greatest),
 (⟨#[117,110,105,113,117,101,47,48]⟩,M.F_prim_input_unique),
 (⟨#[97,100,100,47,48]⟩,M.F_prim_input_add),
 (⟨#[102,108,97,116,116,101,110,47,48]⟩,M.F_prim_input_flatten),
 (⟨#[116,114,97,110,115,112,111,115,101,47,48]⟩,M.F_prim_input_transpose),
 (⟨#[103,101,116,112,97,116,104,47,49]⟩,M.F_prim_input_getpath),
 (⟨#[115,101,116,112,97,116,104,47,50]⟩,M.F_prim_input_setpath),
 (⟨#[100,101,108,112,97,116,104,115,47,49]⟩,M.F_prim_input_delpaths),
 (⟨#[97,98,115,47,48]⟩,M.F_prim_input_abs),
 (⟨#[116,111,97,114,114,97,121,47,48]⟩,M.F_prim_input_toarray)]
def RF (v : Value) : Option (DataW Unit × List MemPlace):=match v with
 | .func (.func f) a b=>if a.isEmpty&&b.isEmpty then some (.lit (.int .i64 f),[]) else none
 | .nilFunc=>some (.nil,[])
 | _=>none
theorem RF_func (f : Nat) : RF (.func (.func f) #[] #[])=some (.lit (.int .i64 f),[]):=rfl
theorem RF_inv {v : Value} {f : Int} {ps : List MemPlace} (h : RF v=some (.lit (.int .i64 f),ps)) : ∃ n : Nat,v=.func (.func n) #[] #[]∧(n : Int)=f:=by
 unfold RF at h
 split at h
 ·rename_i n a b
  split at h
  ·rename_i hc
   simp only [Bool.and_eq_true,Array.isEmpty_iff] at hc
   obtain ⟨rfl,rfl⟩:=hc
   simp only [Option.some.injEq,Prod.mk.injEq,DataW.lit.injEq,Lit.int.injEq,true_and] at h
   exact ⟨n,rfl,h.1⟩
  ·cases h
 ·cases h
 ·cases h
def insOk (t : TypeId) (o : Oper) (p : ByteArray × Nat) : Bool:=o.guard.isNone&&o.dst.isNone&&(match o.op with
 | .insert t' (.tmp 1) (.const (.string s)) (.func f)=>t' == t&&s.data == p.1.data&&f == p.2
 | _=>false)
def insAll (t : TypeId) : List Oper→List (ByteArray × Nat)→Bool
 | [],[]=>true
 | o::l,p::ps=>insOk t o p&&insAll t l ps
 | _,_=>false
def putM (D : DataW Unit) (ps : List (ByteArray × Nat)) : DataW Unit:=ps.foldl (fun D p=>D.put (.string p.1.data.toList) (.lit (.int .i64 p.2))) D
theorem ins_run {P : Program} {t kt et : TypeId} (ht : P.underlying t=some (.map kt et)) (hk : P.underlying kt=some .string) {ops : Array Oper} {Q : Exit→Act→World→Prop} {rest : List Oper} {a : Act} {b : Nat} (hm : a.eval (.tmp 1)=.map (some b)) :
 ∀ (l : List Oper) (ps : List (ByteArray × Nat)) (w : World) (n : Nat) (D : DataW Unit),insAll t l ps=true→w.ownsMap P kt RF b n D→n+ps.length < maxLen→(∀ p ∈ ps,p.1.size≤LIM) →
   (∀ w',w'.ownsMap P kt RF b (n+ps.length) (putM D ps)→w.grownBy w' (some b)→wpList P ops Q rest a w')→wpList P ops Q (l++rest) a w
 | [],[],w,n,D,_,hown,_,_,hK=>hK w hown (World.grownBy.refl w _)
 | [],_::_,_,_,_,h,_,_,_,_=>by cases h
 | _::_,[],_,_,_,h,_,_,_,_=>by cases h
 | o::l,p::ps,w,n,D,h,hown,hn,hs,hK=>by
   simp only [insAll,Bool.and_eq_true] at h
   obtain ⟨h1,h2⟩:=h
   simp only [insOk,Bool.and_eq_true,Option.isNone_iff_eq_none] at h1
   obtain ⟨⟨hg,hd⟩,h3⟩:=h1
   split at h3
   ·rename_i t' s f hop
    simp only [Bool.and_eq_true,beq_iff_eq] at h3
    obtain ⟨⟨rfl,hs'⟩,rfl⟩:=h3
    have hsp : s=p.1:=by cases s; cases hp : p.1; rw [hp] at hs'; simp at hs'; rw [hs']
    subst hsp
    have hkey : keyOf P kt (.string p.1)=some (.string p.1.data.toList):=WideMaps.keyOf_string_mk hk (by have:=hs p (List.mem_cons_self ..); unfold LIM at this; unfold maxLen; omega)
    obtain ⟨w1,hrun,hown1,hgr⟩:=hown.update (string_keyed hk) ht (by simp only [List.length_cons] at hn; omega) hkey (RF_func p.2)
    rw [List.cons_append]
    refine wpList_plain hg fun K hK'=>?_
    unfold Oper.wp
    have e1 : a.eval (.const (.string p.1))=.string p.1:=rfl
    have e2 : a.eval (.func p.2)=.func (.func p.2) #[] #[]:=rfl
    simp [execOp,hop,hm,e1,e2,hrun,Result.andThen]
    refine hK' _ _ ?_
    rw [hd]
    refine ins_run ht hk hm l ps w1 (n+1) _ h2 hown1 (by simp only [List.length_cons] at hn; omega) (fun q hq=>hs q (List.mem_cons_of_mem _ hq)) fun w' ho hg'=>hK w' ?_ (hgr.trans hg')
    rw [List.length_cons,show n+(ps.length+1)=n+1+ps.length by omega]
    exact ho
   ·cases h3
def mvOk (o : Oper) : Bool:=o.guard.isNone&&o.dst == some 2&&(match o.op with
 | .move (.tmp 1)=>true
 | _=>false)
def lastOk (o : Oper) : Bool:=o.guard.isNone&&o.dst == some 0&&(match o.op with
 | .assign (.tmp 2)=>true
 | _=>false)
def insThen (t : TypeId) : List Oper→List (ByteArray × Nat)→Bool
 | [o1,o2],[]=>mvOk o1&&lastOk o2
 | o::l,p::ps=>insOk t o p&&insThen t l ps
 | _,_=>false
theorem insThen_split {t : TypeId} : ∀ {l : List Oper} {ps : List (ByteArray × Nat)},insThen t l ps=true→∃ l1 o1 o2,l=l1++[o1,o2]∧insAll t l1 ps=true∧mvOk o1=true∧lastOk o2=true
 | [],[],h=>by cases h
 | [_],[],h=>by cases h
 | [o1,o2],[],h=>by
   simp only [insThen,Bool.and_eq_true] at h
   exact ⟨[],o1,o2,rfl,rfl,h.1,h.2⟩
 | _::_::_::_,[],h=>by cases h
 | [],_::_,h=>by cases h
 | o::l,p::ps,h=>by
   simp only [insThen,Bool.and_eq_true] at h
   obtain ⟨l1,o1,o2,rfl,h1,h2⟩:=insThen_split h.2
   exact ⟨o::l1,o1,o2,rfl,by simp [insAll,h.1,h1],h2⟩
def tabChk (t : TypeId) (ps : List (ByteArray × Nat)) : Option Code→Bool
 | some (.seq (.region _ r0 false) (.seq (.region _ r1 false) .ret))=>(match r0.toList with
   | [o]=>o.guard.isNone&&(match o.op with
     | .assign (.const (.map none))=>true
     | _=>false)
   | _=>false)&&(match r1.toList with
   | o::l=>o.guard.isNone&&o.dst == some 1&&(match o.op with
     | .makeMap t' none=>t' == t
     | _=>false)&&insThen t l ps
   | _=>false)
 | _=>false
theorem table_calls {P : Program} {f : FuncId} {fn : Func} {t kt et : TypeId} (hf : P.funcs[f]? = some fn) (hr : fn.results=#[.tmp 0]) (hn : fn.ntmps=3) (ht : P.underlying t=some (.map kt et)) (hk : P.underlying kt=some .string) {ps : List (ByteArray × Nat)} (hc : tabChk t ps fn.body=true) (hl : ps.length < 1000) (hs : ∀ p ∈ ps,p.1.size≤LIM) (w : World) :
 Calls P f #[] w fun e w'=>e=.returned (.map (some w.heap.size))∧w'.ownsMap P kt RF w.heap.size ps.length (putM (.map []) ps)∧Below w.heap.size w w':=by
 cases hb : fn.body with
 | none=>rw [hb] at hc; cases hc
 | some c =>
   rw [hb] at hc
   unfold tabChk at hc
   split at hc
   ·rename_i i0 r0 i1 r1 heq
    cases heq
    simp only [Bool.and_eq_true] at hc
    obtain ⟨h0,h1⟩:=hc
    split at h0
    ·rename_i o0 e0
     simp only [Bool.and_eq_true,Option.isNone_iff_eq_none] at h0
     obtain ⟨g0,h0⟩:=h0
     split at h0
     ·rename_i op0
      split at h1
      ·rename_i omk l e1
       simp only [Bool.and_eq_true,Option.isNone_iff_eq_none,beq_iff_eq] at h1
       obtain ⟨⟨⟨g1,d1⟩,h1⟩,h2⟩:=h1
       split at h1
       ·rename_i t' op1
        simp only [beq_iff_eq] at h1
        subst h1
        obtain ⟨l1,om,ol,rfl,h3,h5,h4⟩:=insThen_split h2
        simp only [lastOk,Bool.and_eq_true,Option.isNone_iff_eq_none,beq_iff_eq] at h4
        obtain ⟨⟨g4,d4⟩,h4⟩:=h4
        simp only [mvOk,Bool.and_eq_true,Option.isNone_iff_eq_none,beq_iff_eq] at h5
        obtain ⟨⟨g5,d5⟩,h5⟩:=h5
        have op5 : om.op=.move (.tmp 1):=by
         split at h5
         ·assumption
         ·cases h5
        split at h4
        ·rename_i op4
         refine calls_of_wp hf hb (wp_seq (wp_region_list ?_))
         rw [e0]
         refine wpList_plain g0 fun K hK=>?_
         unfold Oper.wp
         simp [execOp,op0,Act.eval,Result.andThen]
         refine hK _ _ (wpList_nil ?_)
         refine wp_seq (wp_region_list ?_)
         rw [e1]
         refine wpList_plain g1 fun K hK=>?_
         unfold Oper.wp
         simp [execOp,op1,run_makeMap,Result.andThen]
         refine hK _ _ ?_
         rw [d1]
         obtain ⟨A,hA⟩ : ∃ A : Act,A=Act.put (Act.put { tmps:=Array.replicate fn.ntmps undef,defers:=[] } o0.dst (Value.map none)) (some 1) (Value.map (some w.heap.size)):=⟨_,rfl⟩
         have hsz : A.tmps.size=3:=by rw [hA]; cases o0.dst <;> simp [Act.put,hn]
         have hev : A.eval (.tmp 1)=.map (some w.heap.size):=by
          rw [hA]; cases o0.dst <;> simp [Act.put,Act.eval,hn]
         have hdf : A.defers=[]:=by rw [hA]; cases o0.dst <;> rfl
         first | rw [← hA] | skip
         refine ins_run ht hk hev l1 ps _ 0 (.map []) h3 (World.ownsMap_made w P kt RF) (by unfold maxLen; omega) hs fun w' hown hgr=>?_
         refine wpList_plain g5 fun K hK=>?_
         unfold Oper.wp
         simp [execOp,op5,hev,Result.andThen]
         show K (A.put om.dst (.map (some w.heap.size))) w'
         rw [d5]
         refine hK _ _ ?_
         have hev2 : (A.put (some 2) (.map (some w.heap.size))).eval (.tmp 2)=.map (some w.heap.size):=by simp [Act.put,Act.eval,hsz]
         refine wpList_plain g4 fun K hK=>?_
         unfold Oper.wp
         simp [execOp,op4,hev2,Result.andThen]
         show K ((A.put (some 2) (.map (some w.heap.size))).put ol.dst (.map (some w.heap.size))) w'
         rw [d4]
         refine hK _ _ (wpList_nil ?_)
         refine wp_ret (bodyPost_ret (results_tmp hr _ _ _) ?_ ?_)
         ·exact hdf
         ·refine ⟨?_,by simpa using hown,?_⟩
          ·simp [Act.put,hsz]
          ·refine ((Below.refl _ w).alloc (Nat.le_refl _) _).grown hgr (by simp) (fun j hj=>by cases hj; exact Nat.le_refl _)
        ·cases h4
       ·cases h1
      ·cases h1
     ·cases h0
    ·cases h0
   ·cases hc
def isEnt (y : Lit × DataW Unit) (p : ByteArray × Nat) : Bool:=match y with
 | (.string s,.lit (.int .i64 f))=>s == p.1.data.toList&&f == (p.2 : Int)
 | _=>false
def entsOk (E : List (Lit × DataW Unit)) (ps : List (ByteArray × Nat)) : Bool:=E.all (fun y=>ps.any fun p=>isEnt y p)&&ps.all (fun p=>E.any fun y=>isEnt y p)&&ps.all (fun p=>ps.all fun q=>p.1.data != q.1.data||p.2 == q.2)&&ps.all (fun p=>decide (p.1.size≤LIM))
theorem ba_ext {a b : ByteArray} (h : a.data.toList=b.data.toList) : a=b:=by
 cases a; cases b; simp at h; rw [h]
open WideElems in
theorem mapF_of {P : Program} {kt : TypeId} (hk : P.underlying kt=some .string) {w : World} {b n : Nat} {E : List (Lit × DataW Unit)} {ps : List (ByteArray × Nat)} (hown : w.ownsMap P kt RF b n (.map E)) (hc : entsOk E ps=true) : MapF w b ps:=by
 simp only [entsOk,Bool.and_eq_true,List.all_eq_true,List.any_eq_true,decide_eq_true_eq] at hc
 obtain ⟨⟨⟨c1,c2⟩,c3⟩,c4⟩:=hc
 obtain ⟨arr,clock,hb,F,_,hD⟩:=hown
 have hE : E=(arr.toList.map (rg P kt RF)).foldr DataW.insert []:=DataW.map.inj hD
 have hmem : ∀ y,y ∈ E↔y ∈ arr.toList.map (rg P kt RF):=fun y=>by rw [hE]; exact (WideShapes.sorted_perm _).mem_iff
 refine ⟨arr,clock,hb,fun e he=>?_,fun p hp=>?_,fun p hp q hq hpq=>?_⟩
 ·obtain ⟨y,hy⟩:=F.reads e he
  have hyE : y ∈ E:=(hmem y).2 (List.mem_map.2 ⟨e,he,rg_of hy⟩)
  obtain ⟨p,hp,hm⟩:=c1 y hyE
  have k1:=rd_key hy
  obtain ⟨z,hz,hd⟩:=rd_val hy
  unfold isEnt at hm
  split at hm
  ·rename_i s f
   simp only [Bool.and_eq_true,beq_iff_eq] at hm
   obtain ⟨m1,m2⟩:=hm
   obtain ⟨s',hs',hl,_⟩:=WideMaps.string_of_keyOf hk k1
   simp only [Lit.string.injEq] at hl
   have hsp : s'=p.1:=ba_ext (by rw [← hl,m1])
   obtain ⟨z1,z2⟩:=z
   simp only at hd
   subst hd
   obtain ⟨g,hg,hgf⟩:=RF_inv hz
   refine ⟨p,hp,by rw [hs',hsp],?_,c4 p hp⟩
   rw [hg,show g=p.2 by omega]
  ·cases hm
 ·obtain ⟨y,hy,hm⟩:=c2 p hp
  obtain ⟨e,he,hr⟩:=List.mem_map.1 ((hmem y).1 hy)
  obtain ⟨y',hy'⟩:=F.reads e he
  have : y'=y:=by rw [← hr,rg_of hy']
  subst this
  have k1:=rd_key hy'
  unfold isEnt at hm
  split at hm
  ·rename_i s f
   simp only [Bool.and_eq_true,beq_iff_eq] at hm
   obtain ⟨s',hs',hl,_⟩:=WideMaps.string_of_keyOf hk k1
   simp only [Lit.string.injEq] at hl
   exact ⟨e,he,by rw [hs',ba_ext (a:=s') (b:=p.1) (by rw [← hl,hm.1])]⟩
  ·cases hm
 ·have:=c3 p hp q hq
  simp only [Bool.or_eq_true,bne_iff_ne,ne_eq,beq_iff_eq] at this
  rcases this with h | h
  ·exact absurd (by rw [hpq]) h
  ·exact Prod.ext hpq h
def entsD (D : DataW Unit) (ps : List (ByteArray × Nat)) : Bool:=match D with
 | .map E=>entsOk E ps
 | _=>false
theorem prim_ents : entsD (putM (.map []) primT) primT=true:=by kernel_rfl
theorem table_ret {P : Program} {f : FuncId} {fn : Func} {t kt et : TypeId} (hca : callable P f=true) (hf : P.funcs[f]? = some fn) (hr : fn.results=#[.tmp 0]) (hn : fn.ntmps=3) (ht : P.underlying t=some (.map kt et)) (hk : P.underlying kt=some .string) {ps : List (ByteArray × Nat)} (hc : tabChk t ps fn.body=true) (hl : ps.length < 1000) (he : entsD (putM (.map []) ps) ps=true) : Ret P f [] (.mapf ps):=by
 unfold entsD at he
 split at he
 ·rename_i E hE
  have hsz : ∀ p ∈ ps,p.1.size≤LIM:=by
   simp only [entsOk,Bool.and_eq_true,List.all_eq_true,decide_eq_true_eq] at he
   exact he.2
  refine ⟨hca,fun w F vs hG hF hr'=>?_⟩
  have hvs : vs=[]:=hr'
  subst hvs
  refine Calls.mono (table_calls hf hr hn ht hk hc hl hsz w) ?_
  rintro e w' ⟨rfl,hown,hbel⟩
  rw [hE] at hown
  have hlt:=hown.lt
  refine ⟨_,fun b=>F b∨b=w.heap.size,rfl,Bel.of hbel,fun _ h=>.inl h,fun b hb=>?_,⟨_,rfl,.inr rfl,mapF_of hk hown he⟩⟩
  rcases hb with hb | rfl
  ·have:=hF b hb
   exact ⟨by omega,.inl hb⟩
  ·exact ⟨hlt,.inr (Nat.le_refl _)⟩
 ·cases he
theorem c_prim_table : Ret prog M.F_prim_table [] (.mapf primT) :=
 table_ret (by kernel_rfl) Tryz.func13 rfl rfl Tryz.underlying40 Tryz.underlying9 (by kernel_rfl) (by decide) prim_ents
end Go.Proofs.YtnlfgnelfooljaaGreatDoor.Pv
set_option maxRecDepth 100000
namespace Go.Proofs.YtnlfgnelfooljaaGreatDoor.Pv
open Go Go.RowKit
def itoaS (n : Int) : ByteArray:=⟨(Lib.itoa n).toArray⟩
def keyS (s : ByteArray) (n : Int) : ByteArray:=s++⟨#[47]⟩++itoaS n
theorem pow_there : (prog.globalNamed "internal/strconv.uint64pow10").isSome=true:=by kernel_rfl
theorem c_strconv_Itoa (n : Int) : Ret prog M.F_strconv_Itoa [.int .i64 n] (.str (itoaS n)):=by
 refine ⟨by kernel_rfl,fun w F vs hG hF hr=>?_⟩
 obtain ⟨v,us,rfl,hv,hus⟩:=hr
 obtain rfl : us=[]:=hus
 obtain ⟨rfl,h0,h1⟩:=hv
 simp [IntKind.min,IntKind.max,IntKind.signed,IntKind.bits] at h0 h1
 obtain ⟨g,hg⟩:=Option.isSome_iff_exists.1 pow_there
 obtain ⟨_,_,ht⟩:=hG.2.1 _ (List.mem_cons_self ..) g hg
 have h : Calls prog M.F_strconv_Itoa #[.int .i64 n] w _:=Any.strconv_Itoa Tryz.laysItoa n (by omega) (by omega) w ht
 refine Calls.mono h ?_
 rintro e w' ⟨rfl,k,os,rfl⟩
 have hb:=Lib.below_grow w.heap.size w (Nat.le_refl _) k os
 refine ⟨_,F,rfl,Bel.of hb,fun _ h=>h,fun b hb'=>⟨Nat.lt_of_lt_of_le (hF b hb') hb.size,.inl hb'⟩,⟨rfl,?_⟩⟩
 have:=Lib.itoa_length_le n (by omega) (by omega)
 show (Lib.itoa n).toArray.size≤LIM
 simp [LIM]; omega
theorem itoaS_size {n : Int} (h0 : -9223372036854775808≤n) (h1 : n≤9223372036854775807) : (itoaS n).size≤21:=by
 have:=Lib.itoa_length_le n h0 h1
 show (Lib.itoa n).toArray.size≤21
 simpa using this
theorem c_prim_key (s : ByteArray) (n : Int) (hs : s.size≤140737488355000) : Ret prog M.F_prim_key [.str s,.int .i64 n] (.str (keyS s n)):=by
 have c1:=c_strconv_Itoa n
 refine Ret.go hmix h_prim_key (by simp) fun hb w0 F0 hG=>?_
 simp [bndL,bndV,IntKind.min,IntKind.max,IntKind.signed,IntKind.bits] at hb
 have hi:=itoaS_size (n:=n) (by omega) (by omega)
 unfold keyS
 simp
 refine ⟨by show s.size+1≤LIM; simp [LIM]; omega,?_⟩
 refine XCall.ret (by first | exact c1 | (simpa using c1)) ?_
 simp
 have e1 : (s++{ data:=#[47] } : ByteArray).size=s.size+1:=by simp; rfl
 simp [LIM]
 have e2 : ({ data:=#[47] } : ByteArray).size=1:=rfl
 rw [e2]; omega
end Go.Proofs.YtnlfgnelfooljaaGreatDoor.Pv
set_option maxRecDepth 100000
namespace Go.Proofs.YtnlfgnelfooljaaGreatDoor.Pv
open Go Go.Tidy
theorem c_prim_list (l : List Val) : Ret prog M.F_prim_list [.vec 5 false (l.map encVal)] (.agg (cV (lstV l))):=by
 refine Ret.go hmix h_prim_list (by simp) fun hb w0 F0 hG=>?_
 simp [lstV,emp]
theorem c_prim_text (s : S) : Ret prog M.F_prim_text [.str s] (.agg (cV (txtV s))):=by
 refine Ret.go hmix h_prim_text (by simp) fun hb w0 F0 hG=>?_
 simp [txtV,emp]
theorem c_prim_number (n : Int) : Ret prog M.F_prim_number [.int .i64 n] (.agg (cV (numV (itoaT n)))):=by
 have c1:=c_strconv_Itoa n
 refine Ret.go hmix h_prim_number (by simp) fun hb w0 F0 hG=>?_
 simp
 intros
 refine XCall.ret (by first | exact c1 | (simpa using c1)) ?_
 simp [numV,emp,itoaT,itoaS]
theorem c_prim_input_is (v a : Val) (l : List Val) (i j : Int) : Ret prog M.F_prim_input_is [.agg (cV v++[.vec 5 false ((a::l).map encVal)]),.int .i64 i,.int .i64 j] (.bool (decide (v.kind=i)&&decide (a.kind=j))):=by
 refine Ret.go hmix h_prim_input_is (by simp) fun hb w0 F0 hG=>?_
 by_cases h : v.kind=i
 ·simp [h]
 ·simp [h]
theorem c_ref03_Weight_txt (s : S) (hs : s.size≤140737488355328) : Ret prog M.F_ref03_Weight [.agg (cV (txtV s))] (.int .i64 ((1+s.size : Nat) : Int)):=by
 refine Ret.go hmix h_ref03_Weight (by simp) fun hb w0 F0 hG=>?_
 have w1:=wrap64 (n:=(1 : Int)) (by omega) (by omega)
 have w2:=wrap64 (n:=(1 : Int)+s.size) (by omega) (by omega)
 have e0 : emp.size=0:=rfl
 have e2 : ((1+s.size : Nat) : Int)=1+s.size:=by omega
 rw [e2]
 simp [txtV,e0,w1,w2]
 intros
 refine XCut.go hmix ?_
 simp
 refine XLoop.rnd hmix (.s .z) ?_
 simp [XRnd_s]
set_option maxHeartbeats 8000000 in
theorem like_walk (v : Val) (h : ∀ x ∈ v.items,Ret prog M.F_ref03_Like [.agg (cV x),.agg (cV x)] (.bool true)) : Ret prog M.F_ref03_Like [.agg (cV v),.agg (cV v)] (.bool true):=by
 refine Ret.go hmix h_ref03_Like (by simp) fun hb w0 F0 hG=>?_
 simp only [bndL,bndV,List.length_map,LIM,and_true] at hb
 have es : ∀ x : S,sEq x x=true:=fun x=>sEq_iff.2 rfl
 simp [es]
 intro v1 v2
 refine XLoop.cnt hmix v.keys.length (fun k (_ : Unit)=>⟨[(5,.int .i64 k),(3,.ptr (3,v2) 5 0 0),(2,.ptr (2,v1) 5 0 0)],[((3,v2),some ⟨5,[cV v],false,true⟩),((2,v1),some ⟨5,[cV v],false,true⟩)]⟩) (fun _ _=>True) () trivial (by simp) fun k _ hk _=>?_
 have hw:=wrap64 (n:=(k : Int)+1) (by omega) (by omega)
 by_cases g1 : k < v.keys.length
 ·simp [g1,hw,es]
 ·simp [g1]
  refine XLoop.cnt hmix v.items.length (fun k (_ : Unit)=>⟨[(6,.int .i64 k),(3,.ptr (3,v2) 5 0 0),(2,.ptr (2,v1) 5 0 0)],[((3,v2),some ⟨5,[cV v],false,true⟩),((2,v1),some ⟨5,[cV v],false,true⟩)]⟩) (fun _ _=>True) () trivial (by simp) fun k _ hk _=>?_
  have hw:=wrap64 (n:=(k : Int)+1) (by omega) (by omega)
  by_cases g2 : k < v.items.length
  ·have c1:=h _ (List.getElem_mem g2)
   simp [g2]
   intros
   refine XDCall.ret (by first | exact c1 | (simpa using c1)) ?_
   simp [g2,hw]
  ·simp [g2]
theorem c_ref03_Like (v : Val) : Ret prog M.F_ref03_Like [.agg (cV v),.agg (cV v)] (.bool true):=by
 induction hn : SizeOf.sizeOf v using Nat.strongRecOn generalizing v with
 | _ n ih =>
   subst hn
   exact like_walk v fun x hx=>ih _ (val_sz hx) x rfl
end Go.Proofs.YtnlfgnelfooljaaGreatDoor.Pv
namespace Go.Proofs.YtnlfgnelfooljaaGreatDoor.Pv
open Go Go.RowKit Go.Tidy
theorem info_rune : (prog.info? 21).map (fun i=>(i.zero,i.size,i.bytes))=some (some (.int .i32 0),1,4):=by kernel_rfl
theorem row_apart {w : World} {base : Nat} {e : TypeId} {size : Nat} {v : Value} {n : Nat} {xs : List Value} (h : w.ownsRow base e size v n xs) {k : Nat} {s0 : ByteArray} {p0 : Nat} (hk : w.heap[k]? = some (.stringIter s0 p0)) : v.ownBlock ≠ some k:=fun e=>by
 obtain ⟨_,h2⟩:=h
 rcases h2 with ⟨rfl,_⟩ | ⟨g,cap,cur,rfl,_,c,_⟩
 ·cases e
 ·cases e
  rw [c] at hk; cases hk
theorem row_iter {w : World} {base : Nat} {e : TypeId} {size : Nat} {v : Value} {n : Nat} {xs : List Value} (h : w.ownsRow base e size v n xs) {k : Nat} {s0 : ByteArray} {p0 : Nat} (hk : w.heap[k]? = some (.stringIter s0 p0)) (s : ByteArray) (p : Nat) : (w.iterAt k s p).ownsRow base e size v n xs:=by
 have ha:=row_apart h hk
 obtain ⟨h1,h2⟩:=h
 refine ⟨h1,?_⟩
 rcases h2 with h2 | ⟨g,cap,cur,rfl,b,c,d⟩
 ·exact .inl h2
 ·exact .inr ⟨g,cap,cur,rfl,b,by rw [Lib.iterAt_other _ _ _ _ _ (fun e=>ha (by rw [e]; rfl))]; exact c,d⟩
theorem iter_pos {w : World} {k : Nat} {s : ByteArray} {p : Nat} (h : w.heap[k]? = some (.stringIter s p)) : w.iterPos k=p:=by simp [World.iterPos,h]
theorem runesL_step {s : ByteArray} {pos n : Nat} (h : pos < s.size) : runesL (n+1) (s.data.toList.drop pos)=((Utf8.decode s pos).1 : Int)::runesL n (s.data.toList.drop (pos+(Utf8.decode s pos).2)):=by
 have h0 : s.data.toList.drop pos ≠ []:=by
  intro e
  have:=congrArg List.length e
  have hs : s.size=s.data.toList.length:=rfl
  simp at this
  omega
 simp only [runesL,if_neg h0]
 rw [Lib.decodeL_drop,List.drop_drop]
theorem runesL_end {s : ByteArray} {pos n : Nat} (h : ¬ pos < s.size) : runesL n (s.data.toList.drop pos)=[]:=by
 have hs : s.size=s.data.toList.length:=rfl
 rw [List.drop_eq_nil_of_le (by omega)]
 cases n <;> simp [runesL]
theorem dec_width {s : ByteArray} {pos : Nat} : 1≤(Utf8.decode s pos).2∧isRune ((Utf8.decode s pos).1 : Int):=by
 have:=dec_pos (s.data.toList.drop pos)
 rw [Lib.decodeL_drop] at this
 exact ⟨this.1,this.2.2⟩
set_option maxRecDepth 1000000 in
set_option maxHeartbeats 4000000 in
theorem runes_calls (s : S) (w : World) (hs : s.size≤1000000000) :
 Calls Tryz.prog 94 #[.string s] w fun e w'=>(∃ v,e=.returned v∧w'.ownsRow w.heap.size 21 1 v (runesS s).length ((runesS s).map fun r=>Value.int .i32 r))∧Below w.heap.size w w':=by
 obtain ⟨i0,hi,hz0,hz1,hz2⟩:=info_parts info_rune
 go_enter Tryz.func94,Tryz.ntmps94
 go_wp2
 go_loopw [3] (fun v wr=>∃ (pos fuel : Nat) (acc : List Int),wr.heap[w.heap.size+1]? = some (.stringIter s pos)∧wr.ownsRow w.heap.size 21 1 v acc.length (acc.map fun r=>Value.int .i32 r)∧Below w.heap.size w wr∧acc++runesL fuel (s.data.toList.drop pos)=runesS s∧s.size≤pos+fuel∧acc.length≤pos) (fun _ wr=>s.size - wr.iterPos (w.heap.size+1))
 case atStart =>
   refine ⟨0,s.size,[],?_,⟨rfl,.inr ⟨w.heap.size,0,#[],rfl,Nat.le_refl _,?_,Nat.le_refl _,by decide,rfl,rfl⟩⟩,((Below.refl _ w).alloc (Nat.le_refl _) _).alloc (by simp) _,rfl,by omega,by simp⟩
   ·have:=World.iter_heap (w.alloc (.cells #[] 21)) s 0
    simpa using this
   ·exact (Below.heap_alloc (w.alloc (.cells #[] 21)) _ w.heap.size (by simp)).trans (heap_alloc_new w _)
 case round =>
   obtain ⟨pos,fuel,acc,hit,hown,hbw,HS,hb,hlen⟩:=hrel
   have hpos0:=iter_pos hit
   by_cases hp : pos < s.size
   ·have hnx : ∀ ty,(Instr.next (.pointer (some ⟨w.heap.size+1,0,none⟩)) true ty).run Tryz.prog wr=_:=fun ty=>Lib.run_next_any_at wr (w.heap.size+1) s pos ty hit hp
    obtain ⟨hwd,hru⟩:=dec_width (s:=s) (pos:=pos)
    obtain ⟨fuel,rfl⟩ : ∃ f',fuel=f'+1:=⟨fuel - 1,by omega⟩
    have hit2:=Lib.iterAt_heap wr (w.heap.size+1) s pos (pos+(Utf8.decode s pos).2) hit
    have hbw2:=Lib.below_iterAt hbw (k:=w.heap.size+1) (by omega) s (pos+(Utf8.decode s pos).2)
    have hown2:=row_iter hown hit s (pos+(Utf8.decode s pos).2)
    rw [runesL_step hp] at HS
    obtain ⟨W1,hW1⟩ : ∃ W1,W1=wr.iterAt (w.heap.size+1) s (pos+(Utf8.decode s pos).2):=⟨_,rfl⟩
    rw [← hW1] at hnx hit2 hbw2 hown2
    have hBlt:=lt_of_block hit2
    have hdl:=decode_le s pos
    clear hW1 hit hown hbw
    generalize (Utf8.decode s pos).1=r at *
    generalize (Utf8.decode s pos).2=wd at *
    go_wp2_with (at_builtin; refine wpList_append_own _ rfl _ _ 73 rfl w.heap.size 21 i0 (.int .i32 0) 1 4 Tryz.underlying73 hi hz0 hz1 hz2 rfl (by decide) _ _ _ rfl (hown2.alloc _) ⟨W1.heap.size,0,none⟩ 1 1 [.int .i32 (r : Int)] rfl rfl ?c1 ?c2 ?c3 ?c4 ?c5 ?_)
    case c1 =>
      intro j u hj
      match j,hj with
      | 0,hj=>simp at hj; subst hj; simp [Addr.add]
      | j+1,hj=>simp at hj
    case c2 =>
      intro u hu
      simp at hu
      subst hu; rfl
    case c3=>unfold maxLen; omega
    case c4=>omega
    case c5 =>
      have:=hbw2.size
      simp; omega
    intro v' w3 hown' hgrow3 hnil3
    have hit3 : w3.heap[w.heap.size+1]? = some (.stringIter s (pos+wd)):=by
     rw [hgrow3.block (w.heap.size+1) (by simp; omega) (fun h=>row_apart hown2 hit2 h.symm),Below.heap_alloc _ _ _ hBlt]; exact hit2
    have hbw3 : Below w.heap.size w w3:=Below.grown (hbw2.alloc (by omega) _) hgrow3 (by simp; omega) (fun j hj=>by have:=(hown2.lt _ hj).1; omega)
    clear hgrow3 hnil3 hown2 hit2 hbw2
    go_wp2
    go_roundw
    case rel=>exact ⟨pos+wd,fuel,acc++[(r : Int)],hit3,by simpa using hown',hbw3,by simpa using HS,by omega,by simp; omega⟩
    case measure=>rw [iter_pos hit3,hpos0]; omega
   ·have hnx : ∀ ty,(Instr.next (.pointer (some ⟨w.heap.size+1,0,none⟩)) true ty).run Tryz.prog wr=_:=fun ty=>Lib.run_next_end_at wr (w.heap.size+1) s pos ty hit hp
    rw [runesL_end hp,List.append_nil] at HS
    go_wp2
    go_ret
    subst HS
    exact ⟨⟨_,rfl,hown⟩,hbw⟩
set_option maxRecDepth 1000000 in
set_option maxHeartbeats 4000000 in
theorem proper_calls (r : Int) (hr : isRune r) (w : World) : Calls Tryz.prog 149 #[.int .i32 r] w fun e w'=>e=.returned (.int .i32 r)∧w'=w:=by
 obtain ⟨h0,h1,h2⟩:=hr
 have hv : Calls Tryz.prog 189 #[.int .i32 r] w fun e w'=>e=.returned (.bool true)∧w'=w:=by
  go_enter Tryz.func189,Tryz.ntmps189
  by_cases ha : r < 55296
  ·go_wp2
   go_ret
   exact ⟨rfl,rfl⟩
  ·have hb : 57343 < r:=by omega
   go_wp2
   go_ret
   exact ⟨rfl,rfl⟩
 go_enter Tryz.func149,Tryz.ntmps149
 go_wp2_with (go_at_call 189; refine hv.mono ?_)
 rintro e W1 ⟨rfl,rfl⟩
 go_wp2
 go_ret
 exact ⟨rfl,rfl⟩
set_option maxRecDepth 1000000 in
set_option maxHeartbeats 4000000 in
theorem text_calls (R : List Int) (hR : ∀ r ∈ R,isRune r) (hl : R.length≤1000000000) (v : Value) (w : World) (a : Option Addr) (cap : Nat) (hv : v=.slice a R.length cap)
 (hc : ∀ j (hj : j < R.length),∃ b o,a=some ⟨b,o,none⟩∧b < w.heap.size∧w.cell? ⟨b,o+j,none⟩=some (.int .i32 R[j])) :
 Calls Tryz.prog 96 #[v] w fun e w'=>e=.returned (.string (encS R))∧Below w.heap.size w w':=by
 subst hv
 go_enter Tryz.func96,Tryz.ntmps96
 go_wp2
 go_loopw [9] (fun i wr=>∃ k : Nat,i=.int .i64 k∧k≤R.length∧Lib.IsBuilderF 101 5 w.heap.size w.heap.size (Lib.byteCells (encR (R.take k))) wr∧Below w.heap.size w wr) (fun i _=>R.length - (intOf i).toNat)
 case atStart=>exact ⟨0,rfl,Nat.zero_le _,Lib.IsBuilderF.of (Lib.fresh_isBuilder 101 5 w),(Below.refl _ w).alloc (Nat.le_refl _) _⟩
 case round =>
   obtain ⟨k,rfl,hk,hI,hbw⟩:=hrel
   have hsz:=hbw.size
   have hlen:=encR_len (R.take k)
   have hlen2 : (R.take k).length≤R.length:=by simp; omega
   by_cases hkl : k < R.length
   ·obtain ⟨b,o,ea,hlt,hcell⟩:=hc k hkl
    subst ea
    have hcw : wr.cell? ⟨b,o+k,none⟩=some (.int .i32 R[k]):=by rw [hbw.cell (p:=⟨b,o+k,none⟩) hlt]; exact hcell
    have hr:=hR _ (List.getElem_mem hkl)
    have hr1:=hr.1
    have hr2:=hr.2.1
    have hstep : encR (R.take (k+1))=encR (R.take k)++Lib.encodeRune R[k]:=by
     unfold encR
     rw [List.take_succ_eq_append_getElem hkl,List.flatMap_append,List.flatMap_singleton]
    go_wp2_with (go_at_call 149; refine (proper_calls R[k] hr _).mono ?_)
    rintro e W1 ⟨rfl,rfl⟩
    go_wp2_with (go_at_call 148; refine (b_WriteRune w.heap.size w.heap.size _ R[k] (by omega) (by omega) _ hI (by rw [Lib.byteCells_length]; omega) hsz).mono ?_)
    rintro e W2 ⟨rfl,h1,b1,k1⟩
    go_wp2
    go_roundw
    case rel =>
      refine ⟨k+1,by simp,by omega,?_,hbw.trans b1⟩
      rw [hstep,Lib.byteCells_append,Lib.byteCells_encodeRune]
      exact Or.inr h1
    case measure=>simp [intOf]; omega
   ·have hkn : k=R.length:=by omega
    rw [hkn,List.take_length] at hI
    go_wp2_with (go_at_call 118; refine (b_String w.heap.size w.heap.size (encR R) _ hI hsz).mono ?_)
    rintro e W1 ⟨rfl,_,b1,_⟩
    go_wp2
    go_ret
    exact ⟨rfl,hbw.trans b1⟩
end Go.Proofs.YtnlfgnelfooljaaGreatDoor.Pv
