/-
  The program's data, as Lean's.
-/
import Derived.Test.YthhgcklidfilfaaUt
namespace Go.Proofs.Ythhgcklidfilfaa.BX
set_option linter.unusedSectionVars false
set_option linter.unusedSimpArgs false
set_option linter.unusedVariables false
open Go Go.RowKit
set_option maxRecDepth 20000
set_option maxHeartbeats 400000

abbrev eIntS (xs : List Int) : T := .sl (xs.map (T.i .i64))
abbrev eIntSS (xs : List (List Int)) : T := .sl (xs.map eIntS)
abbrev eStringS (xs : List (List UInt8)) : T := .sl (xs.map T.s)
abbrev eStringSS (xs : List (List (List UInt8))) : T := .sl (xs.map eStringS)
structure Grant where
  name : List UInt8
  level : Int
  deriving DecidableEq
def eGrant (x : Grant) : T := .ag [.s x.name, .i .i64 x.level]
@[push_cast] theorem eGrant_len {x : Grant} : (eGrant x).cells.length = 2 := rfl
@[push_cast] theorem eGrant_isAg {x : Grant} : (eGrant x).isAg = true := rfl
@[push_cast] theorem eGrant_ones {x : Grant} : T.allOne (eGrant x).cells = true := rfl
@[push_cast] theorem eGrant_flat {x : Grant} : (eGrant x).flat = true := rfl
@[push_cast] theorem eGrant_fits {x : Grant} : fits (.ag [.leaf, .leaf]) (eGrant x) = true := rfl
@[push_cast] theorem eGrant_one {x : Grant} : (eGrant x).one = false := rfl
abbrev eGrantS (xs : List Grant) : T := .sl (xs.map eGrant)
structure Event where
  id : List UInt8
  sender : List UInt8
  typ : List UInt8
  isState : Bool
  key : List UInt8
  time : Int
  prev : List (List UInt8)
  auth : List (List UInt8)
  value : List UInt8
  grants : List Grant
  deriving DecidableEq
def eEvent (x : Event) : T := .ag [.s x.id, .s x.sender, .s x.typ, .b x.isState, .s x.key, .i .i64 x.time, eStringS x.prev, eStringS x.auth, .s x.value, eGrantS x.grants]
@[push_cast] theorem eEvent_len {x : Event} : (eEvent x).cells.length = 10 := rfl
@[push_cast] theorem eEvent_isAg {x : Event} : (eEvent x).isAg = true := rfl
@[push_cast] theorem eEvent_ones {x : Event} : T.allOne (eEvent x).cells = true := rfl
@[push_cast] theorem eEvent_nflat {x : Event} : (eEvent x).flat = false := rfl
@[push_cast] theorem eEvent_one {x : Event} : (eEvent x).one = false := rfl
abbrev eEventS (xs : List Event) : T := .sl (xs.map eEvent)
structure Room where
  events : List Event
  deriving DecidableEq
def eRoom (x : Room) : T := .ag [eEventS x.events]
@[push_cast] theorem eRoom_len {x : Room} : (eRoom x).cells.length = 1 := rfl
@[push_cast] theorem eRoom_isAg {x : Room} : (eRoom x).isAg = true := rfl
@[push_cast] theorem eRoom_ones {x : Room} : T.allOne (eRoom x).cells = true := rfl
@[push_cast] theorem eRoom_nflat {x : Room} : (eRoom x).flat = false := rfl
@[push_cast] theorem eRoom_one {x : Room} : (eRoom x).one = false := rfl
structure Spot where
  chain : Int
  seq : Int
  deriving DecidableEq
def eSpot (x : Spot) : T := .ag [.i .i64 x.chain, .i .i64 x.seq]
@[push_cast] theorem eSpot_len {x : Spot} : (eSpot x).cells.length = 2 := rfl
@[push_cast] theorem eSpot_isAg {x : Spot} : (eSpot x).isAg = true := rfl
@[push_cast] theorem eSpot_ones {x : Spot} : T.allOne (eSpot x).cells = true := rfl
@[push_cast] theorem eSpot_flat {x : Spot} : (eSpot x).flat = true := rfl
@[push_cast] theorem eSpot_fits {x : Spot} : fits (.ag [.leaf, .leaf]) (eSpot x) = true := rfl
@[push_cast] theorem eSpot_one {x : Spot} : (eSpot x).one = false := rfl
abbrev eSpotS (xs : List Spot) : T := .sl (xs.map eSpot)
structure Cover where
  spots : List Spot
  reach : List (List Int)
  deriving DecidableEq
def eCover (x : Cover) : T := .ag [eSpotS x.spots, eIntSS x.reach]
@[push_cast] theorem eCover_len {x : Cover} : (eCover x).cells.length = 2 := rfl
@[push_cast] theorem eCover_isAg {x : Cover} : (eCover x).isAg = true := rfl
@[push_cast] theorem eCover_ones {x : Cover} : T.allOne (eCover x).cells = true := rfl
@[push_cast] theorem eCover_nflat {x : Cover} : (eCover x).flat = false := rfl
@[push_cast] theorem eCover_one {x : Cover} : (eCover x).one = false := rfl
structure Entry where
  typ : List UInt8
  key : List UInt8
  id : List UInt8
  deriving DecidableEq
def eEntry (x : Entry) : T := .ag [.s x.typ, .s x.key, .s x.id]
@[push_cast] theorem eEntry_len {x : Entry} : (eEntry x).cells.length = 3 := rfl
@[push_cast] theorem eEntry_isAg {x : Entry} : (eEntry x).isAg = true := rfl
@[push_cast] theorem eEntry_ones {x : Entry} : T.allOne (eEntry x).cells = true := rfl
@[push_cast] theorem eEntry_flat {x : Entry} : (eEntry x).flat = true := rfl
@[push_cast] theorem eEntry_fits {x : Entry} : fits (.ag [.leaf, .leaf, .leaf]) (eEntry x) = true := rfl
@[push_cast] theorem eEntry_one {x : Entry} : (eEntry x).one = false := rfl
abbrev eEntryS (xs : List Entry) : T := .sl (xs.map eEntry)
abbrev eEntrySS (xs : List (List Entry)) : T := .sl (xs.map eEntryS)
structure Group where
  parent : Int
  sets : List Entry
  deriving DecidableEq
def eGroup (x : Group) : T := .ag [.i .i64 x.parent, eEntryS x.sets]
@[push_cast] theorem eGroup_len {x : Group} : (eGroup x).cells.length = 2 := rfl
@[push_cast] theorem eGroup_isAg {x : Group} : (eGroup x).isAg = true := rfl
@[push_cast] theorem eGroup_ones {x : Group} : T.allOne (eGroup x).cells = true := rfl
@[push_cast] theorem eGroup_nflat {x : Group} : (eGroup x).flat = false := rfl
@[push_cast] theorem eGroup_one {x : Group} : (eGroup x).one = false := rfl
abbrev eGroupS (xs : List Group) : T := .sl (xs.map eGroup)
structure Store where
  groups : List Group
  deriving DecidableEq
def eStore (x : Store) : T := .ag [eGroupS x.groups]
@[push_cast] theorem eStore_len {x : Store} : (eStore x).cells.length = 1 := rfl
@[push_cast] theorem eStore_isAg {x : Store} : (eStore x).isAg = true := rfl
@[push_cast] theorem eStore_ones {x : Store} : T.allOne (eStore x).cells = true := rfl
@[push_cast] theorem eStore_nflat {x : Store} : (eStore x).flat = false := rfl
@[push_cast] theorem eStore_one {x : Store} : (eStore x).one = false := rfl
structure Slot where
  typ : List UInt8
  key : List UInt8
  deriving DecidableEq
def eSlot (x : Slot) : T := .ag [.s x.typ, .s x.key]
@[push_cast] theorem eSlot_len {x : Slot} : (eSlot x).cells.length = 2 := rfl
@[push_cast] theorem eSlot_isAg {x : Slot} : (eSlot x).isAg = true := rfl
@[push_cast] theorem eSlot_ones {x : Slot} : T.allOne (eSlot x).cells = true := rfl
@[push_cast] theorem eSlot_flat {x : Slot} : (eSlot x).flat = true := rfl
@[push_cast] theorem eSlot_fits {x : Slot} : fits (.ag [.leaf, .leaf]) (eSlot x) = true := rfl
@[push_cast] theorem eSlot_one {x : Slot} : (eSlot x).one = false := rfl
abbrev eSlotS (xs : List Slot) : T := .sl (xs.map eSlot)
structure Engine where
  room : Room
  cover : Cover
  store : Store
  before : List Int
  after : List Int
  deriving DecidableEq
def eEngine (x : Engine) : T := .ag [eEventS x.room.events, eSpotS x.cover.spots, eIntSS x.cover.reach, eGroupS x.store.groups, eIntS x.before, eIntS x.after]
@[push_cast] theorem eEngine_len {x : Engine} : (eEngine x).cells.length = 6 := rfl
@[push_cast] theorem eEngine_isAg {x : Engine} : (eEngine x).isAg = true := rfl
@[push_cast] theorem eEngine_ones {x : Engine} : T.allOne (eEngine x).cells = true := rfl
@[push_cast] theorem eEngine_nflat {x : Engine} : (eEngine x).flat = false := rfl
@[push_cast] theorem eEngine_one {x : Engine} : (eEngine x).one = false := rfl
structure Answer where
  code : Int
  state : List Entry
  ids : List (List UInt8)
  deriving DecidableEq
def eAnswer (x : Answer) : T := .ag [.i .i64 x.code, eEntryS x.state, eStringS x.ids]
@[push_cast] theorem eAnswer_len {x : Answer} : (eAnswer x).cells.length = 3 := rfl
@[push_cast] theorem eAnswer_isAg {x : Answer} : (eAnswer x).isAg = true := rfl
@[push_cast] theorem eAnswer_ones {x : Answer} : T.allOne (eAnswer x).cells = true := rfl
@[push_cast] theorem eAnswer_nflat {x : Answer} : (eAnswer x).flat = false := rfl
@[push_cast] theorem eAnswer_one {x : Answer} : (eAnswer x).one = false := rfl
abbrev eAnswerS (xs : List Answer) : T := .sl (xs.map eAnswer)
end Go.Proofs.Ythhgcklidfilfaa.BX
