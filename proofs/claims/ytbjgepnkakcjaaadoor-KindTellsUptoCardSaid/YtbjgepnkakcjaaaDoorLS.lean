/-
  LIFT, S: THE PROGRAM's STRUCTS as Lean structures, and how they are abstract values (printed by tools/structs.py).
-/
import Derived.Test.YtbjgepnkakcjaaaDoorLC
namespace Go.Proofs.YtbjgepnkakcjaaaDoor.Lift
open Go

@[simp] theorem cStr_dec : cStr.dec = decStr := rfl
@[simp] theorem cStr_enc : cStr.enc = encStr := rfl
@[simp] theorem cInt_dec : cInt.dec = decInt := rfl
@[simp] theorem cInt_enc : cInt.enc = encInt := rfl
@[simp] theorem cBool_dec : cBool.dec = decBool := rfl
@[simp] theorem cBool_enc : cBool.enc = encBool := rfl
@[simp] theorem cByte_dec : cByte.dec = decByte := rfl
@[simp] theorem cByte_enc : cByte.enc = encByte := rfl
@[simp] theorem cL_dec {α : Type} (c : Cod α) : (cL c).dec = decL c.dec := rfl
@[simp] theorem cL_enc {α : Type} (c : Cod α) : (cL c).enc = encL c.enc := rfl
attribute [simp] encL fz fzL

@[simp] theorem mapO_Str (l : List Str) : mapO decStr (l.map encStr) = some l := mapO_map (by simp) l
@[simp] theorem fzL_Str (l : List Str) : fzL (l.map encStr) = true := fzL_map (fun _ => rfl) l
@[simp] theorem blwL_Str (k : Nat) (l : List Str) : blwL k (l.map encStr) = true := blwL_map (fun _ => rfl) k l

@[simp] theorem mapO_Int (l : List Int) : mapO decInt (l.map encInt) = some l := mapO_map (by simp) l
@[simp] theorem fzL_Int (l : List Int) : fzL (l.map encInt) = true := fzL_map (fun _ => rfl) l
@[simp] theorem blwL_Int (k : Nat) (l : List Int) : blwL k (l.map encInt) = true := blwL_map (fun _ => rfl) k l

@[simp] theorem mapO_Bool (l : List Bool) : mapO decBool (l.map encBool) = some l := mapO_map (by simp) l
@[simp] theorem fzL_Bool (l : List Bool) : fzL (l.map encBool) = true := fzL_map (fun _ => rfl) l
@[simp] theorem blwL_Bool (k : Nat) (l : List Bool) : blwL k (l.map encBool) = true := blwL_map (fun _ => rfl) k l

@[simp] theorem mapO_Byte (l : List UInt8) : mapO decByte (l.map encByte) = some l := mapO_map (by simp) l
@[simp] theorem fzL_Byte (l : List UInt8) : fzL (l.map encByte) = true := fzL_map (fun _ => rfl) l
@[simp] theorem blwL_Byte (k : Nat) (l : List UInt8) : blwL k (l.map encByte) = true := blwL_map (fun _ => rfl) k l

structure ARecord where
  epoch : Int
  data : Str
  deriving DecidableEq, Inhabited

@[simp] def encRecord (x : ARecord) : AV := .agg [.int .i64 x.epoch, .str x.data]

@[simp] def decRecord : AV → Option ARecord
  | .agg [.int .i64 epoch, .str data] => some ⟨epoch, data⟩
  | _ => none

theorem edRecord (v : AV) (x : ARecord) (h : decRecord v = some x) : v = encRecord x := by
  unfold decRecord at h
  split at h
  · cases h; rfl
  · cases h

def cRecord : Cod ARecord := ⟨encRecord, decRecord, fun x => by simp, edRecord, fun x => by simp⟩
@[simp] theorem cRecord_dec : cRecord.dec = decRecord := rfl
@[simp] theorem cRecord_enc : cRecord.enc = encRecord := rfl
@[simp] theorem mapO_Record (l : List ARecord) : mapO decRecord (l.map encRecord) = some l := mapO_map cRecord.de l
@[simp] theorem fzL_Record (l : List ARecord) : fzL (l.map encRecord) = true := fzL_map cRecord.fz l
@[simp] theorem blwL_Record (k : Nat) (l : List ARecord) : blwL k (l.map encRecord) = true := blwL_map cRecord.fz k l

structure AEntry where
  tag : Int
  text : Str
  n : Int
  a : Int
  b : Int
  deriving DecidableEq, Inhabited

@[simp] def encEntry (x : AEntry) : AV := .agg [.int .i64 x.tag, .str x.text, .int .i64 x.n, .int .i64 x.a, .int .i64 x.b]

@[simp] def decEntry : AV → Option AEntry
  | .agg [.int .i64 tag, .str text, .int .i64 n, .int .i64 a, .int .i64 b] => some ⟨tag, text, n, a, b⟩
  | _ => none

theorem edEntry (v : AV) (x : AEntry) (h : decEntry v = some x) : v = encEntry x := by
  unfold decEntry at h
  split at h
  · cases h; rfl
  · cases h

def cEntry : Cod AEntry := ⟨encEntry, decEntry, fun x => by simp, edEntry, fun x => by simp⟩
@[simp] theorem cEntry_dec : cEntry.dec = decEntry := rfl
@[simp] theorem cEntry_enc : cEntry.enc = encEntry := rfl
@[simp] theorem mapO_Entry (l : List AEntry) : mapO decEntry (l.map encEntry) = some l := mapO_map cEntry.de l
@[simp] theorem fzL_Entry (l : List AEntry) : fzL (l.map encEntry) = true := fzL_map cEntry.fz l
@[simp] theorem blwL_Entry (k : Nat) (l : List AEntry) : blwL k (l.map encEntry) = true := blwL_map cEntry.fz k l

structure AConst where
  tag : Int
  n : Int
  cls : Str
  name : Str
  type : Str
  deriving DecidableEq, Inhabited

@[simp] def encConst (x : AConst) : AV := .agg [.int .i64 x.tag, .int .i64 x.n, .str x.cls, .str x.name, .str x.type]

@[simp] def decConst : AV → Option AConst
  | .agg [.int .i64 tag, .int .i64 n, .str cls, .str name, .str type] => some ⟨tag, n, cls, name, type⟩
  | _ => none

theorem edConst (v : AV) (x : AConst) (h : decConst v = some x) : v = encConst x := by
  unfold decConst at h
  split at h
  · cases h; rfl
  · cases h

def cConst : Cod AConst := ⟨encConst, decConst, fun x => by simp, edConst, fun x => by simp⟩
@[simp] theorem cConst_dec : cConst.dec = decConst := rfl
@[simp] theorem cConst_enc : cConst.enc = encConst := rfl
@[simp] theorem mapO_Const (l : List AConst) : mapO decConst (l.map encConst) = some l := mapO_map cConst.de l
@[simp] theorem fzL_Const (l : List AConst) : fzL (l.map encConst) = true := fzL_map cConst.fz l
@[simp] theorem blwL_Const (k : Nat) (l : List AConst) : blwL k (l.map encConst) = true := blwL_map cConst.fz k l

structure ATy where
  kind : Int
  name : Str
  deriving DecidableEq, Inhabited

@[simp] def encTy (x : ATy) : AV := .agg [.int .i64 x.kind, .str x.name]

@[simp] def decTy : AV → Option ATy
  | .agg [.int .i64 kind, .str name] => some ⟨kind, name⟩
  | _ => none

theorem edTy (v : AV) (x : ATy) (h : decTy v = some x) : v = encTy x := by
  unfold decTy at h
  split at h
  · cases h; rfl
  · cases h

def cTy : Cod ATy := ⟨encTy, decTy, fun x => by simp, edTy, fun x => by simp⟩
@[simp] theorem cTy_dec : cTy.dec = decTy := rfl
@[simp] theorem cTy_enc : cTy.enc = encTy := rfl
@[simp] theorem mapO_Ty (l : List ATy) : mapO decTy (l.map encTy) = some l := mapO_map cTy.de l
@[simp] theorem fzL_Ty (l : List ATy) : fzL (l.map encTy) = true := fzL_map cTy.fz l
@[simp] theorem blwL_Ty (k : Nat) (l : List ATy) : blwL k (l.map encTy) = true := blwL_map cTy.fz k l

structure AMap where
  at_ : Int
  locals : List ATy
  stack : List ATy
  deriving DecidableEq, Inhabited

@[simp] def encMap (x : AMap) : AV := .agg [.int .i64 x.at_, .sl (x.locals.map encTy), .sl (x.stack.map encTy)]

@[simp] def decMap : AV → Option AMap
  | .agg [.int .i64 at_, .sl locals, .sl stack] => (mapO decTy locals).bind fun locals => (mapO decTy stack).bind fun stack => some ⟨at_, locals, stack⟩
  | _ => none

theorem edMap (v : AV) (x : AMap) (h : decMap v = some x) : v = encMap x := by
  unfold decMap at h
  split at h
  · simp only [Option.bind_eq_some_iff, Option.some.injEq] at h
    obtain ⟨q_locals, h_locals, q_stack, h_stack, rfl⟩ := h
    simp only [encMap, ← mapO_inv edTy _ _ h_locals, ← mapO_inv edTy _ _ h_stack]
  · cases h

def cMap : Cod AMap := ⟨encMap, decMap, fun x => by simp, edMap, fun x => by simp⟩
@[simp] theorem cMap_dec : cMap.dec = decMap := rfl
@[simp] theorem cMap_enc : cMap.enc = encMap := rfl
@[simp] theorem mapO_Map (l : List AMap) : mapO decMap (l.map encMap) = some l := mapO_map cMap.de l
@[simp] theorem fzL_Map (l : List AMap) : fzL (l.map encMap) = true := fzL_map cMap.fz l
@[simp] theorem blwL_Map (k : Nat) (l : List AMap) : blwL k (l.map encMap) = true := blwL_map cMap.fz k l

structure AHandler where
  from_ : Int
  to : Int
  at_ : Int
  cls : Int
  deriving DecidableEq, Inhabited

@[simp] def encHandler (x : AHandler) : AV := .agg [.int .i64 x.from_, .int .i64 x.to, .int .i64 x.at_, .int .i64 x.cls]

@[simp] def decHandler : AV → Option AHandler
  | .agg [.int .i64 from_, .int .i64 to, .int .i64 at_, .int .i64 cls] => some ⟨from_, to, at_, cls⟩
  | _ => none

theorem edHandler (v : AV) (x : AHandler) (h : decHandler v = some x) : v = encHandler x := by
  unfold decHandler at h
  split at h
  · cases h; rfl
  · cases h

def cHandler : Cod AHandler := ⟨encHandler, decHandler, fun x => by simp, edHandler, fun x => by simp⟩
@[simp] theorem cHandler_dec : cHandler.dec = decHandler := rfl
@[simp] theorem cHandler_enc : cHandler.enc = encHandler := rfl
@[simp] theorem mapO_Handler (l : List AHandler) : mapO decHandler (l.map encHandler) = some l := mapO_map cHandler.de l
@[simp] theorem fzL_Handler (l : List AHandler) : fzL (l.map encHandler) = true := fzL_map cHandler.fz l
@[simp] theorem blwL_Handler (k : Nat) (l : List AHandler) : blwL k (l.map encHandler) = true := blwL_map cHandler.fz k l

structure ACode where
  stack : Int
  locals : Int
  bytes : List UInt8
  handlers : List AHandler
  maps : List AMap
  deriving DecidableEq, Inhabited

@[simp] def encCode (x : ACode) : AV := .agg [.int .i64 x.stack, .int .i64 x.locals, .sl (x.bytes.map encByte), .sl (x.handlers.map encHandler), .sl (x.maps.map encMap)]

@[simp] def decCode : AV → Option ACode
  | .agg [.int .i64 stack, .int .i64 locals, .sl bytes, .sl handlers, .sl maps] => (mapO decByte bytes).bind fun bytes => (mapO decHandler handlers).bind fun handlers => (mapO decMap maps).bind fun maps => some ⟨stack, locals, bytes, handlers, maps⟩
  | _ => none

theorem edCode (v : AV) (x : ACode) (h : decCode v = some x) : v = encCode x := by
  unfold decCode at h
  split at h
  · simp only [Option.bind_eq_some_iff, Option.some.injEq] at h
    obtain ⟨q_bytes, h_bytes, q_handlers, h_handlers, q_maps, h_maps, rfl⟩ := h
    simp only [encCode, ← mapO_inv decByte_ed _ _ h_bytes, ← mapO_inv edHandler _ _ h_handlers, ← mapO_inv edMap _ _ h_maps]
  · cases h

def cCode : Cod ACode := ⟨encCode, decCode, fun x => by simp, edCode, fun x => by simp⟩
@[simp] theorem cCode_dec : cCode.dec = decCode := rfl
@[simp] theorem cCode_enc : cCode.enc = encCode := rfl
@[simp] theorem mapO_Code (l : List ACode) : mapO decCode (l.map encCode) = some l := mapO_map cCode.de l
@[simp] theorem fzL_Code (l : List ACode) : fzL (l.map encCode) = true := fzL_map cCode.fz l
@[simp] theorem blwL_Code (k : Nat) (l : List ACode) : blwL k (l.map encCode) = true := blwL_map cCode.fz k l

structure AField where
  access : Int
  name : Str
  type : Str
  deriving DecidableEq, Inhabited

@[simp] def encField (x : AField) : AV := .agg [.int .i64 x.access, .str x.name, .str x.type]

@[simp] def decField : AV → Option AField
  | .agg [.int .i64 access, .str name, .str type] => some ⟨access, name, type⟩
  | _ => none

theorem edField (v : AV) (x : AField) (h : decField v = some x) : v = encField x := by
  unfold decField at h
  split at h
  · cases h; rfl
  · cases h

def cField : Cod AField := ⟨encField, decField, fun x => by simp, edField, fun x => by simp⟩
@[simp] theorem cField_dec : cField.dec = decField := rfl
@[simp] theorem cField_enc : cField.enc = encField := rfl
@[simp] theorem mapO_Field (l : List AField) : mapO decField (l.map encField) = some l := mapO_map cField.de l
@[simp] theorem fzL_Field (l : List AField) : fzL (l.map encField) = true := fzL_map cField.fz l
@[simp] theorem blwL_Field (k : Nat) (l : List AField) : blwL k (l.map encField) = true := blwL_map cField.fz k l

structure AMethod where
  access : Int
  name : Str
  type : Str
  code : ACode
  deriving DecidableEq, Inhabited

@[simp] def encMethod (x : AMethod) : AV := .agg [.int .i64 x.access, .str x.name, .str x.type, .int .i64 x.code.stack, .int .i64 x.code.locals, .sl (x.code.bytes.map encByte), .sl (x.code.handlers.map encHandler), .sl (x.code.maps.map encMap)]

@[simp] def decMethod : AV → Option AMethod
  | .agg [.int .i64 access, .str name, .str type, .int .i64 code_stack, .int .i64 code_locals, .sl code_bytes, .sl code_handlers, .sl code_maps] => (mapO decByte code_bytes).bind fun code_bytes => (mapO decHandler code_handlers).bind fun code_handlers => (mapO decMap code_maps).bind fun code_maps => some ⟨access, name, type, ⟨code_stack, code_locals, code_bytes, code_handlers, code_maps⟩⟩
  | _ => none

theorem edMethod (v : AV) (x : AMethod) (h : decMethod v = some x) : v = encMethod x := by
  unfold decMethod at h
  split at h
  · simp only [Option.bind_eq_some_iff, Option.some.injEq] at h
    obtain ⟨q_code_bytes, h_code_bytes, q_code_handlers, h_code_handlers, q_code_maps, h_code_maps, rfl⟩ := h
    simp only [encMethod, ← mapO_inv decByte_ed _ _ h_code_bytes, ← mapO_inv edHandler _ _ h_code_handlers, ← mapO_inv edMap _ _ h_code_maps]
  · cases h

def cMethod : Cod AMethod := ⟨encMethod, decMethod, fun x => by simp, edMethod, fun x => by simp⟩
@[simp] theorem cMethod_dec : cMethod.dec = decMethod := rfl
@[simp] theorem cMethod_enc : cMethod.enc = encMethod := rfl
@[simp] theorem mapO_Method (l : List AMethod) : mapO decMethod (l.map encMethod) = some l := mapO_map cMethod.de l
@[simp] theorem fzL_Method (l : List AMethod) : fzL (l.map encMethod) = true := fzL_map cMethod.fz l
@[simp] theorem blwL_Method (k : Nat) (l : List AMethod) : blwL k (l.map encMethod) = true := blwL_map cMethod.fz k l

structure AClass where
  pool : List AEntry
  name : Str
  super : Str
  fields : List AField
  methods : List AMethod
  deriving DecidableEq, Inhabited

@[simp] def encClass (x : AClass) : AV := .agg [.sl (x.pool.map encEntry), .str x.name, .str x.super, .sl (x.fields.map encField), .sl (x.methods.map encMethod)]

@[simp] def decClass : AV → Option AClass
  | .agg [.sl pool, .str name, .str super, .sl fields, .sl methods] => (mapO decEntry pool).bind fun pool => (mapO decField fields).bind fun fields => (mapO decMethod methods).bind fun methods => some ⟨pool, name, super, fields, methods⟩
  | _ => none

theorem edClass (v : AV) (x : AClass) (h : decClass v = some x) : v = encClass x := by
  unfold decClass at h
  split at h
  · simp only [Option.bind_eq_some_iff, Option.some.injEq] at h
    obtain ⟨q_pool, h_pool, q_fields, h_fields, q_methods, h_methods, rfl⟩ := h
    simp only [encClass, ← mapO_inv edEntry _ _ h_pool, ← mapO_inv edField _ _ h_fields, ← mapO_inv edMethod _ _ h_methods]
  · cases h

def cClass : Cod AClass := ⟨encClass, decClass, fun x => by simp, edClass, fun x => by simp⟩
@[simp] theorem cClass_dec : cClass.dec = decClass := rfl
@[simp] theorem cClass_enc : cClass.enc = encClass := rfl
@[simp] theorem mapO_Class (l : List AClass) : mapO decClass (l.map encClass) = some l := mapO_map cClass.de l
@[simp] theorem fzL_Class (l : List AClass) : fzL (l.map encClass) = true := fzL_map cClass.fz l
@[simp] theorem blwL_Class (k : Nat) (l : List AClass) : blwL k (l.map encClass) = true := blwL_map cClass.fz k l

structure ACase where
  key : Int
  to : Int
  deriving DecidableEq, Inhabited

@[simp] def encCase (x : ACase) : AV := .agg [.int .i64 x.key, .int .i64 x.to]

@[simp] def decCase : AV → Option ACase
  | .agg [.int .i64 key, .int .i64 to] => some ⟨key, to⟩
  | _ => none

theorem edCase (v : AV) (x : ACase) (h : decCase v = some x) : v = encCase x := by
  unfold decCase at h
  split at h
  · cases h; rfl
  · cases h

def cCase : Cod ACase := ⟨encCase, decCase, fun x => by simp, edCase, fun x => by simp⟩
@[simp] theorem cCase_dec : cCase.dec = decCase := rfl
@[simp] theorem cCase_enc : cCase.enc = encCase := rfl
@[simp] theorem mapO_Case (l : List ACase) : mapO decCase (l.map encCase) = some l := mapO_map cCase.de l
@[simp] theorem fzL_Case (l : List ACase) : fzL (l.map encCase) = true := fzL_map cCase.fz l
@[simp] theorem blwL_Case (k : Nat) (l : List ACase) : blwL k (l.map encCase) = true := blwL_map cCase.fz k l

structure AInstr where
  at_ : Int
  op : Int
  a : Int
  b : Int
  cases : List ACase
  deriving DecidableEq, Inhabited

@[simp] def encInstr (x : AInstr) : AV := .agg [.int .i64 x.at_, .int .i64 x.op, .int .i64 x.a, .int .i64 x.b, .sl (x.cases.map encCase)]

@[simp] def decInstr : AV → Option AInstr
  | .agg [.int .i64 at_, .int .i64 op, .int .i64 a, .int .i64 b, .sl cases] => (mapO decCase cases).bind fun cases => some ⟨at_, op, a, b, cases⟩
  | _ => none

theorem edInstr (v : AV) (x : AInstr) (h : decInstr v = some x) : v = encInstr x := by
  unfold decInstr at h
  split at h
  · simp only [Option.bind_eq_some_iff, Option.some.injEq] at h
    obtain ⟨q_cases, h_cases, rfl⟩ := h
    simp only [encInstr, ← mapO_inv edCase _ _ h_cases]
  · cases h

def cInstr : Cod AInstr := ⟨encInstr, decInstr, fun x => by simp, edInstr, fun x => by simp⟩
@[simp] theorem cInstr_dec : cInstr.dec = decInstr := rfl
@[simp] theorem cInstr_enc : cInstr.enc = encInstr := rfl
@[simp] theorem mapO_Instr (l : List AInstr) : mapO decInstr (l.map encInstr) = some l := mapO_map cInstr.de l
@[simp] theorem fzL_Instr (l : List AInstr) : fzL (l.map encInstr) = true := fzL_map cInstr.fz l
@[simp] theorem blwL_Instr (k : Nat) (l : List AInstr) : blwL k (l.map encInstr) = true := blwL_map cInstr.fz k l

structure AFrame where
  locals : List ATy
  stack : List ATy
  deriving DecidableEq, Inhabited

@[simp] def encFrame (x : AFrame) : AV := .agg [.sl (x.locals.map encTy), .sl (x.stack.map encTy)]

@[simp] def decFrame : AV → Option AFrame
  | .agg [.sl locals, .sl stack] => (mapO decTy locals).bind fun locals => (mapO decTy stack).bind fun stack => some ⟨locals, stack⟩
  | _ => none

theorem edFrame (v : AV) (x : AFrame) (h : decFrame v = some x) : v = encFrame x := by
  unfold decFrame at h
  split at h
  · simp only [Option.bind_eq_some_iff, Option.some.injEq] at h
    obtain ⟨q_locals, h_locals, q_stack, h_stack, rfl⟩ := h
    simp only [encFrame, ← mapO_inv edTy _ _ h_locals, ← mapO_inv edTy _ _ h_stack]
  · cases h

def cFrame : Cod AFrame := ⟨encFrame, decFrame, fun x => by simp, edFrame, fun x => by simp⟩
@[simp] theorem cFrame_dec : cFrame.dec = decFrame := rfl
@[simp] theorem cFrame_enc : cFrame.enc = encFrame := rfl
@[simp] theorem mapO_Frame (l : List AFrame) : mapO decFrame (l.map encFrame) = some l := mapO_map cFrame.de l
@[simp] theorem fzL_Frame (l : List AFrame) : fzL (l.map encFrame) = true := fzL_map cFrame.fz l
@[simp] theorem blwL_Frame (k : Nat) (l : List AFrame) : blwL k (l.map encFrame) = true := blwL_map cFrame.fz k l

structure AVal where
  kind : Int
  n : Int
  deriving DecidableEq, Inhabited

@[simp] def encVal (x : AVal) : AV := .agg [.int .i64 x.kind, .int .i64 x.n]

@[simp] def decVal : AV → Option AVal
  | .agg [.int .i64 kind, .int .i64 n] => some ⟨kind, n⟩
  | _ => none

theorem edVal (v : AV) (x : AVal) (h : decVal v = some x) : v = encVal x := by
  unfold decVal at h
  split at h
  · cases h; rfl
  · cases h

def cVal : Cod AVal := ⟨encVal, decVal, fun x => by simp, edVal, fun x => by simp⟩
@[simp] theorem cVal_dec : cVal.dec = decVal := rfl
@[simp] theorem cVal_enc : cVal.enc = encVal := rfl
@[simp] theorem mapO_Val (l : List AVal) : mapO decVal (l.map encVal) = some l := mapO_map cVal.de l
@[simp] theorem fzL_Val (l : List AVal) : fzL (l.map encVal) = true := fzL_map cVal.fz l
@[simp] theorem blwL_Val (k : Nat) (l : List AVal) : blwL k (l.map encVal) = true := blwL_map cVal.fz k l

structure AObject where
  type : Str
  words : List AVal
  deriving DecidableEq, Inhabited

@[simp] def encObject (x : AObject) : AV := .agg [.str x.type, .sl (x.words.map encVal)]

@[simp] def decObject : AV → Option AObject
  | .agg [.str type, .sl words] => (mapO decVal words).bind fun words => some ⟨type, words⟩
  | _ => none

theorem edObject (v : AV) (x : AObject) (h : decObject v = some x) : v = encObject x := by
  unfold decObject at h
  split at h
  · simp only [Option.bind_eq_some_iff, Option.some.injEq] at h
    obtain ⟨q_words, h_words, rfl⟩ := h
    simp only [encObject, ← mapO_inv edVal _ _ h_words]
  · cases h

def cObject : Cod AObject := ⟨encObject, decObject, fun x => by simp, edObject, fun x => by simp⟩
@[simp] theorem cObject_dec : cObject.dec = decObject := rfl
@[simp] theorem cObject_enc : cObject.enc = encObject := rfl
@[simp] theorem mapO_Object (l : List AObject) : mapO decObject (l.map encObject) = some l := mapO_map cObject.de l
@[simp] theorem fzL_Object (l : List AObject) : fzL (l.map encObject) = true := fzL_map cObject.fz l
@[simp] theorem blwL_Object (k : Nat) (l : List AObject) : blwL k (l.map encObject) = true := blwL_map cObject.fz k l

structure ACallF where
  cls : Int
  method : Int
  at_ : Int
  locals : List AVal
  stack : List AVal
  lock : Int
  deriving DecidableEq, Inhabited

@[simp] def encCallF (x : ACallF) : AV := .agg [.int .i64 x.cls, .int .i64 x.method, .int .i64 x.at_, .sl (x.locals.map encVal), .sl (x.stack.map encVal), .int .i64 x.lock]

@[simp] def decCallF : AV → Option ACallF
  | .agg [.int .i64 cls, .int .i64 method, .int .i64 at_, .sl locals, .sl stack, .int .i64 lock] => (mapO decVal locals).bind fun locals => (mapO decVal stack).bind fun stack => some ⟨cls, method, at_, locals, stack, lock⟩
  | _ => none

theorem edCallF (v : AV) (x : ACallF) (h : decCallF v = some x) : v = encCallF x := by
  unfold decCallF at h
  split at h
  · simp only [Option.bind_eq_some_iff, Option.some.injEq] at h
    obtain ⟨q_locals, h_locals, q_stack, h_stack, rfl⟩ := h
    simp only [encCallF, ← mapO_inv edVal _ _ h_locals, ← mapO_inv edVal _ _ h_stack]
  · cases h

def cCallF : Cod ACallF := ⟨encCallF, decCallF, fun x => by simp, edCallF, fun x => by simp⟩
@[simp] theorem cCallF_dec : cCallF.dec = decCallF := rfl
@[simp] theorem cCallF_enc : cCallF.enc = encCallF := rfl
@[simp] theorem mapO_CallF (l : List ACallF) : mapO decCallF (l.map encCallF) = some l := mapO_map cCallF.de l
@[simp] theorem fzL_CallF (l : List ACallF) : fzL (l.map encCallF) = true := fzL_map cCallF.fz l
@[simp] theorem blwL_CallF (k : Nat) (l : List ACallF) : blwL k (l.map encCallF) = true := blwL_map cCallF.fz k l

structure AThread where
  state : Int
  calls : List ACallF
  on : Int
  count : Int
  deriving DecidableEq, Inhabited

@[simp] def encThread (x : AThread) : AV := .agg [.int .i64 x.state, .sl (x.calls.map encCallF), .int .i64 x.on, .int .i64 x.count]

@[simp] def decThread : AV → Option AThread
  | .agg [.int .i64 state, .sl calls, .int .i64 on, .int .i64 count] => (mapO decCallF calls).bind fun calls => some ⟨state, calls, on, count⟩
  | _ => none

theorem edThread (v : AV) (x : AThread) (h : decThread v = some x) : v = encThread x := by
  unfold decThread at h
  split at h
  · simp only [Option.bind_eq_some_iff, Option.some.injEq] at h
    obtain ⟨q_calls, h_calls, rfl⟩ := h
    simp only [encThread, ← mapO_inv edCallF _ _ h_calls]
  · cases h

def cThread : Cod AThread := ⟨encThread, decThread, fun x => by simp, edThread, fun x => by simp⟩
@[simp] theorem cThread_dec : cThread.dec = decThread := rfl
@[simp] theorem cThread_enc : cThread.enc = encThread := rfl
@[simp] theorem mapO_Thread (l : List AThread) : mapO decThread (l.map encThread) = some l := mapO_map cThread.de l
@[simp] theorem fzL_Thread (l : List AThread) : fzL (l.map encThread) = true := fzL_map cThread.fz l
@[simp] theorem blwL_Thread (k : Nat) (l : List AThread) : blwL k (l.map encThread) = true := blwL_map cThread.fz k l

structure AMonitor where
  object : Int
  owner : Int
  count : Int
  deriving DecidableEq, Inhabited

@[simp] def encMonitor (x : AMonitor) : AV := .agg [.int .i64 x.object, .int .i64 x.owner, .int .i64 x.count]

@[simp] def decMonitor : AV → Option AMonitor
  | .agg [.int .i64 object, .int .i64 owner, .int .i64 count] => some ⟨object, owner, count⟩
  | _ => none

theorem edMonitor (v : AV) (x : AMonitor) (h : decMonitor v = some x) : v = encMonitor x := by
  unfold decMonitor at h
  split at h
  · cases h; rfl
  · cases h

def cMonitor : Cod AMonitor := ⟨encMonitor, decMonitor, fun x => by simp, edMonitor, fun x => by simp⟩
@[simp] theorem cMonitor_dec : cMonitor.dec = decMonitor := rfl
@[simp] theorem cMonitor_enc : cMonitor.enc = encMonitor := rfl
@[simp] theorem mapO_Monitor (l : List AMonitor) : mapO decMonitor (l.map encMonitor) = some l := mapO_map cMonitor.de l
@[simp] theorem fzL_Monitor (l : List AMonitor) : fzL (l.map encMonitor) = true := fzL_map cMonitor.fz l
@[simp] theorem blwL_Monitor (k : Nat) (l : List AMonitor) : blwL k (l.map encMonitor) = true := blwL_map cMonitor.fz k l

structure AMachine where
  status : Int
  objects : List AObject
  statics : List AVal
  threads : List AThread
  monitors : List AMonitor
  read : Int
  input : List Int
  out : List Int
  gone : Int
  steps : Int
  deriving DecidableEq, Inhabited

@[simp] def encMachine (x : AMachine) : AV := .agg [.int .i64 x.status, .sl (x.objects.map encObject), .sl (x.statics.map encVal), .sl (x.threads.map encThread), .sl (x.monitors.map encMonitor), .int .i64 x.read, .sl (x.input.map encInt), .sl (x.out.map encInt), .int .i64 x.gone, .int .i64 x.steps]

@[simp] def decMachine : AV → Option AMachine
  | .agg [.int .i64 status, .sl objects, .sl statics, .sl threads, .sl monitors, .int .i64 read, .sl input, .sl out, .int .i64 gone, .int .i64 steps] => (mapO decObject objects).bind fun objects => (mapO decVal statics).bind fun statics => (mapO decThread threads).bind fun threads => (mapO decMonitor monitors).bind fun monitors => (mapO decInt input).bind fun input => (mapO decInt out).bind fun out => some ⟨status, objects, statics, threads, monitors, read, input, out, gone, steps⟩
  | _ => none

theorem edMachine (v : AV) (x : AMachine) (h : decMachine v = some x) : v = encMachine x := by
  unfold decMachine at h
  split at h
  · simp only [Option.bind_eq_some_iff, Option.some.injEq] at h
    obtain ⟨q_objects, h_objects, q_statics, h_statics, q_threads, h_threads, q_monitors, h_monitors, q_input, h_input, q_out, h_out, rfl⟩ := h
    simp only [encMachine, ← mapO_inv edObject _ _ h_objects, ← mapO_inv edVal _ _ h_statics, ← mapO_inv edThread _ _ h_threads, ← mapO_inv edMonitor _ _ h_monitors, ← mapO_inv (show ∀ v x, decInt v = some x → v = encInt x from cInt.ed) _ _ h_input, ← mapO_inv (show ∀ v x, decInt v = some x → v = encInt x from cInt.ed) _ _ h_out]
  · cases h

def cMachine : Cod AMachine := ⟨encMachine, decMachine, fun x => by simp, edMachine, fun x => by simp⟩
@[simp] theorem cMachine_dec : cMachine.dec = decMachine := rfl
@[simp] theorem cMachine_enc : cMachine.enc = encMachine := rfl
@[simp] theorem mapO_Machine (l : List AMachine) : mapO decMachine (l.map encMachine) = some l := mapO_map cMachine.de l
@[simp] theorem fzL_Machine (l : List AMachine) : fzL (l.map encMachine) = true := fzL_map cMachine.fz l
@[simp] theorem blwL_Machine (k : Nat) (l : List AMachine) : blwL k (l.map encMachine) = true := blwL_map cMachine.fz k l

structure AEffect where
  kind : Int
  cls : Int
  method : Int
  args : List AVal
  value : AVal
  name : Str
  object : Int
  deriving DecidableEq, Inhabited

@[simp] def encEffect (x : AEffect) : AV := .agg [.int .i64 x.kind, .int .i64 x.cls, .int .i64 x.method, .sl (x.args.map encVal), .int .i64 x.value.kind, .int .i64 x.value.n, .str x.name, .int .i64 x.object]

@[simp] def decEffect : AV → Option AEffect
  | .agg [.int .i64 kind, .int .i64 cls, .int .i64 method, .sl args, .int .i64 value_kind, .int .i64 value_n, .str name, .int .i64 object] => (mapO decVal args).bind fun args => some ⟨kind, cls, method, args, ⟨value_kind, value_n⟩, name, object⟩
  | _ => none

theorem edEffect (v : AV) (x : AEffect) (h : decEffect v = some x) : v = encEffect x := by
  unfold decEffect at h
  split at h
  · simp only [Option.bind_eq_some_iff, Option.some.injEq] at h
    obtain ⟨q_args, h_args, rfl⟩ := h
    simp only [encEffect, ← mapO_inv edVal _ _ h_args]
  · cases h

def cEffect : Cod AEffect := ⟨encEffect, decEffect, fun x => by simp, edEffect, fun x => by simp⟩
@[simp] theorem cEffect_dec : cEffect.dec = decEffect := rfl
@[simp] theorem cEffect_enc : cEffect.enc = encEffect := rfl
@[simp] theorem mapO_Effect (l : List AEffect) : mapO decEffect (l.map encEffect) = some l := mapO_map cEffect.de l
@[simp] theorem fzL_Effect (l : List AEffect) : fzL (l.map encEffect) = true := fzL_map cEffect.fz l
@[simp] theorem blwL_Effect (k : Nat) (l : List AEffect) : blwL k (l.map encEffect) = true := blwL_map cEffect.fz k l

structure AChoice where
  thread : Int
  steps : Int
  input : List Int
  deriving DecidableEq, Inhabited

@[simp] def encChoice (x : AChoice) : AV := .agg [.int .i64 x.thread, .int .i64 x.steps, .sl (x.input.map encInt)]

@[simp] def decChoice : AV → Option AChoice
  | .agg [.int .i64 thread, .int .i64 steps, .sl input] => (mapO decInt input).bind fun input => some ⟨thread, steps, input⟩
  | _ => none

theorem edChoice (v : AV) (x : AChoice) (h : decChoice v = some x) : v = encChoice x := by
  unfold decChoice at h
  split at h
  · simp only [Option.bind_eq_some_iff, Option.some.injEq] at h
    obtain ⟨q_input, h_input, rfl⟩ := h
    simp only [encChoice, ← mapO_inv (show ∀ v x, decInt v = some x → v = encInt x from cInt.ed) _ _ h_input]
  · cases h

def cChoice : Cod AChoice := ⟨encChoice, decChoice, fun x => by simp, edChoice, fun x => by simp⟩
@[simp] theorem cChoice_dec : cChoice.dec = decChoice := rfl
@[simp] theorem cChoice_enc : cChoice.enc = encChoice := rfl
@[simp] theorem mapO_Choice (l : List AChoice) : mapO decChoice (l.map encChoice) = some l := mapO_map cChoice.de l
@[simp] theorem fzL_Choice (l : List AChoice) : fzL (l.map encChoice) = true := fzL_map cChoice.fz l
@[simp] theorem blwL_Choice (k : Nat) (l : List AChoice) : blwL k (l.map encChoice) = true := blwL_map cChoice.fz k l

structure APair where
  name : Str
  super : Str
  deriving DecidableEq, Inhabited

@[simp] def encPair (x : APair) : AV := .agg [.str x.name, .str x.super]

@[simp] def decPair : AV → Option APair
  | .agg [.str name, .str super] => some ⟨name, super⟩
  | _ => none

theorem edPair (v : AV) (x : APair) (h : decPair v = some x) : v = encPair x := by
  unfold decPair at h
  split at h
  · cases h; rfl
  · cases h

def cPair : Cod APair := ⟨encPair, decPair, fun x => by simp, edPair, fun x => by simp⟩
@[simp] theorem cPair_dec : cPair.dec = decPair := rfl
@[simp] theorem cPair_enc : cPair.enc = encPair := rfl
@[simp] theorem mapO_Pair (l : List APair) : mapO decPair (l.map encPair) = some l := mapO_map cPair.de l
@[simp] theorem fzL_Pair (l : List APair) : fzL (l.map encPair) = true := fzL_map cPair.fz l
@[simp] theorem blwL_Pair (k : Nat) (l : List APair) : blwL k (l.map encPair) = true := blwL_map cPair.fz k l

end Go.Proofs.YtbjgepnkakcjaaaDoor.Lift
